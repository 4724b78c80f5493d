/-
  Equal, Logical, Interval, of the program and of the specification. No conditions.
-/
import Derived.Test.YtidcajmbkbamcaaO5
namespace Go.Proofs.Ytidcajmbkbamcaa
open Go Go.Ab Go.RowKit
set_option linter.unusedSimpArgs false
set_option linter.unusedVariables false
set_option linter.unnecessarySimpa false

attribute [local simp] condK_true condK_false condK_not wpc_skip wpc_ret wpc_exit wpc_seq wpc_reg wpc_regD testA_bool wpc_cond wpc_block thenA_normal thenA_ret thenA_exit blockA_normal blockA_ret blockA_exit blockA_other endA_normal endA_ret ev_tmp' ev_const ev_func ev_global cv_int cv_bool cv_string cv_pointer cv_slice cv_agg put_some put_none wH_s setE_apply setE_env less_eq env_cons env_nil upd_upd upd_apply del_apply startA_eq cells_ag cells_sl one_sl cells_vs one_vs cells_ep one_ep cells_fn one_fn cells_int one_int cells_bool one_bool cells_string one_string cells_pointer one_pointer cells_slice one_slice cells_map one_map cells_agg resK_one resK_nil resK_two rvK_t rvK_c rvsK_nil rvsK_cons iseq_nil iseq_cons gdA_true gdA_false gdA_undef istep_free istep_guard istepV_free istepV_guard dseq_nil dseq_pu dseq_rd dseq_ef chkAll_nil chkAll_cons andK_true pickK_true pickK_false pickK_tb pickK_fb bin2K_pl eqbK_eq eqbK_ne eqpK_eq eqpK_ne un1K_pl convK_int fillK_some fillA_cons fillA_nil cellsK_some needK_true needK_ok seeK_ep seeK_ptr oneK_agg oneK_one nilcK_ptr nilcK_ep fadrK_ptr fadrK_ep fldK_ag iadAK_ptr iadAK_ep iadSK_sl iadSK_vs extK_0 extK_1 extK_2 extK_3 lenK_pl lenK_sl lenK_vs lensK_pl boxK_some minmax1K_int storeK_ptr callvK_fn callvK_pl newsK_nil newsK_vs newsK_sl appK_nil appK_nil0 appK_sl appK_vs bnd1K_int bndK_none bndK_some slsK_vs slsK_nil slsK_sl0 slsK_sl slstrK_pl boolK_some eqsK_ag iop_eqs iop_sls iop_slstr seesK_some seesK_ro mapsK_some MAP_some findK_some findK_none plK_pl nmapK_none nmapK_some iop_mlook iop_mlen iop_mmk iop_mupd iop_mdel iop_mrng itK_none itK_some ptr0K_ptr iop_mnxt iop_ment it1K_some entK_some iop_mov iop_pick iop_bin iop_eqb iop_eqp iop_un iop_conv iop_build iop_load iop_nilc iop_fadr iop_fld iop_iadA iop_iadS iop_ext iop_mkf iop_len iop_lens iop_minmax iop_al iop_box iop_bsl iop_store iop_call iop_callv iop_app BIN_add BIN_sub BIN_mul BIN_and BIN_or BIN_xor BIN_andNot BIN_eql BIN_neq BIN_lss BIN_leq BIN_gtr BIN_geq BIN_quo BIN_rem BIN_shl BIN_shr BIN_sadd BIN_seql BIN_sneq BIN_slss BIN_sleq BIN_sgtr BIN_sgeq UN_neg UN_xor UN_not MM_nil MM_cons partsA argsA ptrA lessL eqL min2I slotN_int slotP_int slotI_int

def eqO (a b : O) : Bool := (a.nm.toList == b.nm.toList) && ((a.w == b.w) && ((a.h == b.h) && ((a.rf == b.rf) && ((a.sc == b.sc) && ((a.tr == b.tr) && ((a.x == b.x) && (a.y == b.y)))))))
def lg (o : O) : R := if chk o = 0 then lrect o else ⟨0, 0, 0, 0⟩
theorem chk_sc (o : O) (h : chk o = 0) : 1 ≤ o.sc ∧ o.sc ≤ 4 ∧ 1000 ≤ o.rf ∧ o.rf ≤ 240000 ∧ nmbad o = false := by
  unfold chk at h
  split at h
  · simp at h
  split at h
  · simp at h
  split at h
  · simp at h
  split at h
  · simp at h
  split at h
  · simp at h
  split at h
  · simp at h
  split at h
  · simp at h
  split at h
  · simp at h
  rename_i g _ _ _ _ _ _ _
  exact ⟨by omega, by omega, by omega, by omega, by simpa using g⟩
theorem c39 (o : O) : PC Try.prog 39 [.ag (oc o)] (.ag (rc (lg o))) := by
  intro H K hk
  refine call_c follows cf39_ok (by simp) ?_
  simp [oc]
  refine newK_of fun p hp => ?_
  simp
  refine newK_of fun q hq => ?_
  obtain ⟨n1, hq⟩ := upd_none.1 hq
  simp [n1, Ne.symm n1]
  refine c47 o _ _ fun H1 h1 => ?_
  have g0 : Ext H H1 := (((Ext.refl H).upd hp).upd hq).trans h1
  have g1 := h1.at (b := p) (by simp [Ne.symm n1]; rfl)
  have g2 := h1.at (b := q) (by simp; rfl)
  unfold lg at hk
  by_cases e : chk o = 0
  · rw [if_pos e] at hk
    simp [e, g1, g2]
    refine c55 o (by have := chk_sc o e; omega) _ _ fun H2 h2 => ?_
    simp [rc, h2.at g2]
    exact hk _ ((g0.trans h2).upd hq)
  · rw [if_neg e] at hk
    simp [e, g1, g2]
    exact hk _ (g0.upd hq)
theorem c25 (o : O) : PC Try.prog 25 [.ag (oc o)] (.ag (rc (lg o))) := by
  intro H K hk
  refine call_c follows cf25_ok (by simp) ?_
  simp [oc]
  refine newK_of fun p hp => ?_
  simp
  refine newK_of fun q hq => ?_
  obtain ⟨n1, hq⟩ := upd_none.1 hq
  simp [n1, Ne.symm n1]
  refine c49 o _ _ fun H1 h1 => ?_
  have g0 : Ext H H1 := (((Ext.refl H).upd hp).upd hq).trans h1
  have g1 := h1.at (b := p) (by simp [Ne.symm n1]; rfl)
  have g2 := h1.at (b := q) (by simp; rfl)
  unfold lg at hk
  by_cases e : chk o = 0
  · rw [if_pos e] at hk
    simp [e, g1, g2]
    refine c50 o (by have := chk_sc o e; omega) _ _ fun H2 h2 => ?_
    simp [h2.at g1, h2.at g2, n1, Ne.symm n1]
    exact hk _ ((g0.trans h2).upd hq)
  · rw [if_neg e] at hk
    simp [e, g1, g2]
    exact hk _ (g0.upd hq)

def itv (o : O) : Int := if chk o = 0 then (2000000000000 + o.rf) / (2 * o.rf) else 0
theorem itv_eq (o : O) (e : chk o = 0) : IntKind.i64.wrap ((IntKind.i64.wrap (2000000000000 + o.rf)).tdiv (IntKind.i64.wrap (2 * o.rf))) = itv o := by
  have := chk_sc o e
  rw [itv, if_pos e, IntWalk.i64_in (2000000000000 + o.rf) (by omega), IntWalk.i64_in (2 * o.rf) (by omega), IntWalk.i64_quo _ _ (by omega)]
end Go.Proofs.Ytidcajmbkbamcaa
