/-
  Check of the program. No conditions.
-/
import Derived.Test.YtidcajmbkbamcaaO3
namespace Go.Proofs.Ytidcajmbkbamcaa
open Go Go.Ab Go.RowKit
set_option linter.unusedSimpArgs false
set_option linter.unusedVariables false
set_option linter.unnecessarySimpa false

attribute [local simp] condK_true condK_false condK_not wpc_skip wpc_ret wpc_exit wpc_seq wpc_reg wpc_regD testA_bool wpc_cond wpc_block thenA_normal thenA_ret thenA_exit blockA_normal blockA_ret blockA_exit blockA_other endA_normal endA_ret ev_tmp' ev_const ev_func ev_global cv_int cv_bool cv_string cv_pointer cv_slice cv_agg put_some put_none wH_s setE_apply setE_env less_eq env_cons env_nil upd_upd upd_apply del_apply startA_eq cells_ag cells_sl one_sl cells_vs one_vs cells_ep one_ep cells_fn one_fn cells_int one_int cells_bool one_bool cells_string one_string cells_pointer one_pointer cells_slice one_slice cells_map one_map cells_agg resK_one resK_nil resK_two rvK_t rvK_c rvsK_nil rvsK_cons iseq_nil iseq_cons gdA_true gdA_false gdA_undef istep_free istep_guard istepV_free istepV_guard dseq_nil dseq_pu dseq_rd dseq_ef chkAll_nil chkAll_cons andK_true pickK_true pickK_false pickK_tb pickK_fb bin2K_pl eqbK_eq eqbK_ne eqpK_eq eqpK_ne un1K_pl convK_int fillK_some fillA_cons fillA_nil cellsK_some needK_true needK_ok seeK_ep seeK_ptr oneK_agg oneK_one nilcK_ptr nilcK_ep fadrK_ptr fadrK_ep fldK_ag iadAK_ptr iadAK_ep iadSK_sl iadSK_vs extK_0 extK_1 extK_2 extK_3 lenK_pl lenK_sl lenK_vs lensK_pl boxK_some minmax1K_int storeK_ptr callvK_fn callvK_pl newsK_nil newsK_vs newsK_sl appK_nil appK_nil0 appK_sl appK_vs bnd1K_int bndK_none bndK_some slsK_vs slsK_nil slsK_sl0 slsK_sl slstrK_pl boolK_some eqsK_ag iop_eqs iop_sls iop_slstr seesK_some seesK_ro mapsK_some MAP_some findK_some findK_none plK_pl nmapK_none nmapK_some iop_mlook iop_mlen iop_mmk iop_mupd iop_mdel iop_mrng itK_none itK_some ptr0K_ptr iop_mnxt iop_ment it1K_some entK_some iop_mov iop_pick iop_bin iop_eqb iop_eqp iop_un iop_conv iop_build iop_load iop_nilc iop_fadr iop_fld iop_iadA iop_iadS iop_ext iop_mkf iop_len iop_lens iop_minmax iop_al iop_box iop_bsl iop_store iop_call iop_callv iop_app BIN_add BIN_sub BIN_mul BIN_and BIN_or BIN_xor BIN_andNot BIN_eql BIN_neq BIN_lss BIN_leq BIN_gtr BIN_geq BIN_quo BIN_rem BIN_shl BIN_shr BIN_sadd BIN_seql BIN_sneq BIN_slss BIN_sleq BIN_sgtr BIN_sgeq UN_neg UN_xor UN_not MM_nil MM_cons partsA argsA ptrA lessL eqL min2I slotN_int slotP_int slotI_int

def nmbad (o : O) : Bool := o.nm.toList.isEmpty || decide (32 < (o.nm.size : Int))
def chk (o : O) : Int :=
  if nmbad o = true then 2 else if okt o.tr = false then 2 else if o.sc < 1 then 2 else if 4 < o.sc then 2 else
  if lenok o.w o.sc = false then 6 else if lenok o.h o.sc = false then 6 else if o.rf < 1000 then 6 else if 240000 < o.rf then 6 else
  if okc o.x = false then 6 else if okc o.y = false then 6 else if rvalid (lrect o) = false then 6 else 0

theorem good15 : goodCallee Try.prog 61 = true := by kernel_rfl
theorem good16 : goodCallee Try.prog 62 = true := by kernel_rfl

theorem c47 (o : O) : PC Try.prog 47 [.ag (oc o)] (vi (chk o)) := by
  intro H K hk
  refine call_c follows cf47_ok (by simp) ?_
  simp [oc]
  refine newK_of fun p hp => ?_
  have g0 : ∀ o, Ext H (upd H p o) := fun _ => (Ext.refl H).upd hp
  simp
  have fin : ∀ H' v, Ext H H' → chk o = v → K (vi v) H' := fun H' v h1 h2 => h2 ▸ hk H' h1
  cases e1 : o.nm.toList.isEmpty with
  | true =>
    simp
    exact fin _ _ (g0 _) (by simp [chk, nmbad, e1])
  | false =>
  simp
  by_cases e2 : (32 : Int) < o.nm.size
  · simp [e2]
    exact fin _ _ (g0 _) (by simp [chk, nmbad, e2])
  simp [e2]
  have nb : nmbad o = false := by simp [nmbad, e1]; omega
  refine c63 _ _ _ fun H1 h1 => ?_
  have k1 := (g0 _).trans h1
  have q1 := h1.at (b := p) (by simp; rfl)
  cases e3 : okt o.tr with
  | false =>
    simp
    exact fin _ _ k1 (by simp [chk, nb, e3])
  | true =>
  simp [q1]
  by_cases e4 : o.sc < 1
  · simp [e4]
    exact fin _ _ k1 (by simp [chk, nb, e3, e4])
  simp [e4, q1]
  by_cases e5 : 4 < o.sc
  · simp [e5]
    exact fin _ _ k1 (by simp [chk, nb, e3, e4, e5])
  simp [e5, q1]
  have hs : o.sc ≠ 0 := by omega
  simp [good15, q1]
  refine c61 _ o.sc hs q1 (by simp) (by simp) ?_
  cases e6 : lenok o.w o.sc with
  | false =>
    simp
    exact fin _ _ k1 (by simp [chk, nb, e3, e4, e5, e6])
  | true =>
  simp [good15, q1]
  refine c61 _ o.sc hs q1 (by simp) (by simp) ?_
  cases e7 : lenok o.h o.sc with
  | false =>
    simp
    exact fin _ _ k1 (by simp [chk, nb, e3, e4, e5, e6, e7])
  | true =>
  simp [q1]
  by_cases e8 : o.rf < 1000
  · simp [e8]
    exact fin _ _ k1 (by simp [chk, nb, e3, e4, e5, e6, e7, e8])
  simp [e8, q1]
  by_cases e9 : 240000 < o.rf
  · simp [e9]
    exact fin _ _ k1 (by simp [chk, nb, e3, e4, e5, e6, e7, e8, e9])
  simp [e9, q1, good16]
  refine c62 _ _ _ fun H2 h2 => ?_
  have k2 := k1.trans h2
  have q2 := h2.at q1
  cases e10 : okc o.x with
  | false =>
    simp
    exact fin _ _ k2 (by simp [chk, nb, e3, e4, e5, e6, e7, e8, e9, e10])
  | true =>
  simp [q2, good16]
  refine c62 _ _ _ fun H3 h3 => ?_
  have k3 := k2.trans h3
  have q3 := h3.at q2
  cases e11 : okc o.y with
  | false =>
    simp
    exact fin _ _ k3 (by simp [chk, nb, e3, e4, e5, e6, e7, e8, e9, e10, e11])
  | true =>
  simp [q3]
  refine c55 o hs _ _ fun H4 h4 => ?_
  simp
  refine c59 _ _ _ fun H5 h5 => ?_
  have k5 := (k3.trans h4).trans h5
  cases e12 : rvalid (lrect o) with
  | false =>
    simp
    exact fin _ _ k5 (by simp [chk, nb, e3, e4, e5, e6, e7, e8, e9, e10, e11, e12])
  | true =>
  simp
  exact fin _ _ k5 (by simp [chk, nb, e3, e4, e5, e6, e7, e8, e9, e10, e11, e12])
end Go.Proofs.Ytidcajmbkbamcaa
