/-
  The reference's layout: the law's calls. Conditions: as each lemma states them.
-/
import Derived.Test.YtidcajmbkbamcaaL21
namespace Go.Proofs.Ytidcajmbkbamcaa
open Go Go.Ab Go.RowKit
set_option linter.unusedSimpArgs false
set_option linter.unusedVariables false
set_option linter.unnecessarySimpa false

attribute [local simp] condK_true condK_false condK_not wpc_skip wpc_ret wpc_exit wpc_seq wpc_reg wpc_regD testA_bool wpc_cond wpc_block thenA_normal thenA_ret thenA_exit blockA_normal blockA_ret blockA_exit blockA_other endA_normal endA_ret ev_tmp' ev_const ev_func ev_global cv_int cv_bool cv_string cv_pointer cv_slice cv_agg put_some put_none wH_s setE_apply setE_env less_eq env_cons env_nil upd_upd upd_apply del_apply startA_eq cells_ag cells_sl one_sl cells_vs one_vs cells_ep one_ep cells_fn one_fn cells_int one_int cells_bool one_bool cells_string one_string cells_pointer one_pointer cells_slice one_slice cells_map one_map cells_agg resK_one resK_nil resK_two rvK_t rvK_c rvsK_nil rvsK_cons iseq_nil iseq_cons gdA_true gdA_false gdA_undef istep_free istep_guard istepV_free istepV_guard dseq_nil dseq_pu dseq_rd dseq_ef chkAll_nil chkAll_cons andK_true pickK_true pickK_false pickK_tb pickK_fb bin2K_pl eqbK_eq eqbK_ne eqpK_eq eqpK_ne un1K_pl convK_int fillK_some fillA_cons fillA_nil cellsK_some needK_true needK_ok seeK_ep seeK_ptr oneK_agg oneK_one nilcK_ptr nilcK_ep fadrK_ptr fadrK_ep fldK_ag iadAK_ptr iadAK_ep iadSK_sl iadSK_vs extK_0 extK_1 extK_2 extK_3 lenK_pl lenK_sl lenK_vs lensK_pl boxK_some minmax1K_int storeK_ptr callvK_fn callvK_pl newsK_nil newsK_vs newsK_sl appK_nil appK_nil0 appK_sl appK_vs bnd1K_int bndK_none bndK_some slsK_vs slsK_nil slsK_sl0 slsK_sl slstrK_pl boolK_some eqsK_ag iop_eqs iop_sls iop_slstr seesK_some seesK_ro mapsK_some MAP_some findK_some findK_none plK_pl nmapK_none nmapK_some iop_mlook iop_mlen iop_mmk iop_mupd iop_mdel iop_mrng itK_none itK_some ptr0K_ptr iop_mnxt iop_ment it1K_some entK_some iop_mov iop_pick iop_bin iop_eqb iop_eqp iop_un iop_conv iop_build iop_load iop_nilc iop_fadr iop_fld iop_iadA iop_iadS iop_ext iop_mkf iop_len iop_lens iop_minmax iop_al iop_box iop_bsl iop_store iop_call iop_callv iop_app BIN_add BIN_sub BIN_mul BIN_and BIN_or BIN_xor BIN_andNot BIN_eql BIN_neq BIN_lss BIN_leq BIN_gtr BIN_geq BIN_quo BIN_rem BIN_shl BIN_shr BIN_sadd BIN_seql BIN_sneq BIN_slss BIN_sleq BIN_sgtr BIN_sgeq UN_neg UN_xor UN_not MM_nil MM_cons partsA argsA ptrA lessL eqL min2I slotN_int slotP_int slotI_int
attribute [local simp] oc_len oc_tt oc_dd oc_one oc_ag oc_t1 oc_t2 oc_t3 oc_t4 oc_t5 oc_t6 oc_t7 oc_d1 oc_d2 oc_d3 oc_d4 oc_d5 oc_d6 oc_d7 opq_len opq_tt opq_dd opq_one opq_ag opq_t1 opq_t2 opq_t3 opq_t4 opq_t5 opq_t6 opq_t7 opq_t8 opq_d1 opq_d2 opq_d3 opq_d4 opq_d5 opq_d6 opq_d7 opq_d8 rc_len rc_t4 rc_t1 rc_t2 rc_t3 rc_d1 rc_d2 rc_d3 rc_d4 rc_ag rc_one rc_eq min2_t min2_f

theorem rowIn_box {H : AH} {v : Nat} {c d : AV} {out : AV} {L : List O} {X : AO} (hv : H v = some (.cells [c, d])) (h : LR H out L) : LR (upd H v X) out L := by
  rcases h with ⟨hl, ⟨h0, rfl⟩ | ⟨r, f, rfl, hr⟩⟩
  · exact ⟨hl, .inl ⟨h0, rfl⟩⟩
  · refine ⟨hl, .inr ⟨r, f, rfl, ?_⟩⟩
    have : r ≠ v := by
      rintro rfl
      rw [hv] at hr
      injection hr with e; injection e with e
      have := congrArg List.length e
      rw [oc_flat_len] at this
      simp at this; omega
    simp only [upd_apply, if_neg this]; exact hr
def wdoE (L : List O) (x : Op) : Int := if x.k = 1 then wplE L x.o else if x.k = 2 then wdlE L x.nm else wmvE L x.nm x.x x.y
def wdoL (L : List O) (x : Op) : List O := if x.k = 1 then wplL L x.o else if x.k = 2 then wdlL L x.nm else wmvL L x.nm x.x x.y
theorem c19 {H : AH} {K : AV → AH → Prop} {x : AV} (L : List O) (o : Op) (hx : LR H x L) (hl : L.length ≤ 1000000)
    (hk : Back H (wdoL L o) (wdoE L o) K) : @AC Try.prog 19 [.ag [vb true, x], .ag (opq o)] H ⟨K⟩ := by
  have ox := hx.one
  refine AC_of (.forget ?_)
  refine call_c follows cf19_ok (by simp) ?_
  simp [ox]
  refine newK_of fun z hz => ?_
  simp
  refine newK_of fun zo hzo => ?_
  obtain ⟨n1, n2, hzo'⟩ := upd_none'.1 hzo
  simp [n2]
  refine newK_of fun v hv => ?_
  obtain ⟨n3, n4, hv1⟩ := upd_none'.1 hv
  obtain ⟨n5, n6, hv2⟩ := upd_none'.1 hv1
  simp [n2, n4, n6]
  have hS : Sub H (upd (upd (upd H z (.cells [vb true, x])) zo (.cells (opq o))) v (.cells [vb false, vnil])) := (((Sub.refl H).upd hz).upd hzo').upd hv2
  have h2z : (upd (upd (upd H z (.cells [vb true, x])) zo (.cells (opq o))) v (.cells [vb false, vnil])) z = some (.cells [vb true, x]) := by simp [upd_apply, n2, n6]
  have h2e : (upd (upd (upd H z (.cells [vb true, x])) zo (.cells (opq o))) v (.cells [vb false, vnil])) zo = some (.cells (opq o)) := by simp [upd_apply, n4]
  have h2v : (upd (upd (upd H z (.cells [vb true, x])) zo (.cells (opq o))) v (.cells [vb false, vnil])) v = some (.cells [vb false, vnil]) := by simp [upd_apply]
  generalize upd (upd (upd H z (.cells [vb true, x])) zo (.cells (opq o))) v (.cells [vb false, vnil]) = H2 at *
  have hx2 := hx.sub hS
  have ho : (⟨o.nm, o.w, o.h, o.rf, o.sc, o.tr, o.x, o.y⟩ : O) = o.o := rfl
  unfold wdoL wdoE at hk
  by_cases c1 : o.k = 1
  · simp only [if_pos c1] at hk
    simp [c1, h2e, h2z, h2v, ox, ho]
    refine c40 L o.o hx2 hl fun out H' hs hr => ?_
    have h3 := hs.at h2v
    have h4 := hr.one
    simp [h3, h4]
    exact ⟨_, Sub.refl _, hk out _ ((hS.trans hs).upd hv2) (rowIn_box h3 hr)⟩
  simp only [if_neg c1] at hk
  by_cases c2 : o.k = 2
  · simp only [if_pos c2] at hk
    simp [c2, h2e, h2z, h2v, ox]
    refine c41 L o.nm hx2 hl fun out H' hs hr => ?_
    have h3 := hs.at h2v
    have h4 := hr.one
    simp [h3, h4]
    exact ⟨_, Sub.refl _, hk out _ ((hS.trans hs).upd hv2) (rowIn_box h3 hr)⟩
  · simp only [if_neg c2] at hk
    simp [c1, c2, h2e, h2z, h2v, ox]
    refine c42 L o.nm o.x o.y hx2 hl fun out H' hs hr => ?_
    have h3 := hs.at h2v
    have h4 := hr.one
    simp [h3, h4]
    exact ⟨_, Sub.refl _, hk out _ ((hS.trans hs).upd hv2) (rowIn_box h3 hr)⟩
end Go.Proofs.Ytidcajmbkbamcaa
