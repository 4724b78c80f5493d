/-
  The chapter's example; what is handed in. No conditions.
-/
import Derived.Test.YtohedpgoioemnaaDoorO8
import Derived.Test.YtohedpgoioemnaaDoorXRow
namespace Go.Proofs.YtohedpgoioemnaaDoor
open Go Go.Ab Go.RowKit
set_option linter.unusedSimpArgs false
set_option linter.unusedVariables false
set_option linter.unnecessarySimpa false

attribute [local simp] condK_true condK_false condK_not wpc_skip wpc_ret wpc_exit wpc_seq wpc_reg wpc_regD testA_bool wpc_cond wpc_block thenA_normal thenA_ret thenA_exit blockA_normal blockA_ret blockA_exit blockA_other endA_normal endA_ret ev_tmp' ev_const ev_func ev_global cv_int cv_bool cv_string cv_pointer cv_slice cv_agg put_some put_none wH_s setE_apply setE_env less_eq env_cons env_nil upd_upd upd_apply del_apply startA_eq cells_ag cells_sl one_sl cells_vs one_vs cells_ep one_ep cells_fn one_fn cells_int one_int cells_bool one_bool cells_string one_string cells_pointer one_pointer cells_slice one_slice cells_map one_map cells_agg resK_one resK_nil resK_two rvK_t rvK_c rvsK_nil rvsK_cons iseq_nil iseq_cons gdA_true gdA_false gdA_undef istep_free istep_guard istepV_free istepV_guard dseq_nil dseq_pu dseq_rd dseq_ef chkAll_nil chkAll_cons andK_true pickK_true pickK_false pickK_tb pickK_fb bin2K_pl eqbK_eq eqbK_ne eqpK_eq eqpK_ne un1K_pl convK_int fillK_some fillA_cons fillA_nil cellsK_some needK_true needK_ok seeK_ep seeK_ptr oneK_agg oneK_one nilcK_ptr nilcK_ep fadrK_ptr fadrK_ep fldK_ag iadAK_ptr iadAK_ep iadSK_sl iadSK_vs extK_0 extK_1 extK_2 extK_3 lenK_pl lenK_sl lenK_vs lensK_pl boxK_some minmax1K_int storeK_ptr callvK_fn callvK_pl newsK_nil newsK_vs newsK_sl appK_nil appK_nil0 appK_sl appK_vs bnd1K_int bndK_none bndK_some slsK_vs slsK_nil slsK_sl0 slsK_sl slstrK_pl boolK_some eqsK_ag iop_eqs iop_sls iop_slstr seesK_some seesK_ro mapsK_some MAP_some findK_some findK_none plK_pl nmapK_none nmapK_some iop_mlook iop_mlen iop_mmk iop_mupd iop_mdel iop_mrng itK_none itK_some ptr0K_ptr iop_mnxt iop_ment it1K_some entK_some iop_mov iop_pick iop_bin iop_eqb iop_eqp iop_un iop_conv iop_build iop_load iop_nilc iop_fadr iop_fld iop_iadA iop_iadS iop_ext iop_mkf iop_len iop_lens iop_minmax iop_al iop_box iop_bsl iop_store iop_call iop_callv iop_app BIN_add BIN_sub BIN_mul BIN_and BIN_or BIN_xor BIN_andNot BIN_eql BIN_neq BIN_lss BIN_leq BIN_gtr BIN_geq BIN_quo BIN_rem BIN_shl BIN_shr BIN_sadd BIN_seql BIN_sneq BIN_slss BIN_sleq BIN_sgtr BIN_sgeq UN_neg UN_xor UN_not MM_nil MM_cons partsA argsA ptrA lessL eqL min2I slotN_int slotP_int slotI_int
attribute [local simp] rc_len rc_t4 rc_t1 rc_t2 rc_t3 rc_d1 rc_d2 rc_d3 rc_d4 rc_ag rc_one rc_eq pc_len pc_t1 pc_t2 pc_d1 pc_d2 pc_ag pc_one oc_len oc_tt oc_dd oc_one oc_ag oc_t1 oc_t2 oc_t3 oc_t4 oc_t5 oc_t6 oc_t7 oc_d1 oc_d2 oc_d3 oc_d4 oc_d5 oc_d6 oc_d7 min2_t min2_f

def exO : O := ⟨⟨#[97]⟩, 8, 4, 60000, 2, 1, 10, 0⟩
theorem exO_chk : chk exO = 0 := by kernel_rfl
theorem exO_lg : lg exO = ⟨10, 0, 12, 4⟩ := by kernel_rfl
theorem exO_tp : toPhys exO ⟨10, 0, 11, 1⟩ = ⟨0, 2, 2, 4⟩ := by kernel_rfl
theorem exO_itv : itv exO = 16666667 := by kernel_rfl
theorem exO_eq : (⟨⟨#[97]⟩, 8, 4, 60000, 2, 1, 10, 0⟩ : O) = exO := rfl
theorem req_refl (r : R) : req r r = true := by simp [req]
theorem c6 : PC Tryd.prog 6 [] (vb true) := by
  refine .tell fun H => ?_
  refine call_c follows cf6_ok (by simp) ?_
  repeat' (first | simp [*, exO_eq, exO_chk, exO_lg, exO_tp, exO_itv, req_refl] | (with_reducible (refine newK_of fun _ h_ => ?_); have hn_ := free_ne h_; (try simp only [upd_none', ne_eq] at h_)) | (with_reducible (refine condK_of (fun h_ => ?_) (fun h_ => ?_))) | with_reducible (refine (c5 ..).ac ?_) | with_reducible (refine (c11 ..).ac ?_) | with_reducible (refine (c12 ..).ac ?_) | with_reducible (refine (c13 ..).ac ?_))
  all_goals ((try with_reducible refine And.intro ?_ ?_) <;> (try (repeat' (first | with_reducible exact Sub.refl _ | with_reducible refine Sub.of_upd (by simp [*]) ?_))))
abbrev oL : List Lf := [.s, .i .i64, .i .i64, .i .i64, .i .i64, .i .i64, .i .i64, .i .i64]
def i64r (n : Int) : Prop := -9223372036854775808 ≤ n ∧ n ≤ 9223372036854775807
def okO (o : O) : Prop := i64r o.w ∧ i64r o.h ∧ i64r o.rf ∧ i64r o.sc ∧ i64r o.tr ∧ i64r o.x ∧ i64r o.y
theorem i64r_of {n : Int} (h : (Lit.int .i64 n).wf = true) : i64r n := by
  simp [Lit.wf, IntKind.min, IntKind.max, IntKind.bits, IntKind.signed] at h
  unfold i64r; omega
theorem fitO {a : AV} (h : FitT true oL a) : ∃ o : O, a = .ag (oc o) ∧ okO o := by
  obtain ⟨cs, rfl, h⟩ := h
  obtain ⟨_, _, rfl, h0, h⟩ := h.cons_inv
  obtain ⟨_, _, rfl, h1, h⟩ := h.cons_inv
  obtain ⟨_, _, rfl, h2, h⟩ := h.cons_inv
  obtain ⟨_, _, rfl, h3, h⟩ := h.cons_inv
  obtain ⟨_, _, rfl, h4, h⟩ := h.cons_inv
  obtain ⟨_, _, rfl, h5, h⟩ := h.cons_inv
  obtain ⟨_, _, rfl, h6, h⟩ := h.cons_inv
  obtain ⟨_, _, rfl, h7, h⟩ := h.cons_inv
  obtain rfl := h.nil_inv
  obtain ⟨_, rfl, _⟩ := h0.s_inv
  obtain ⟨_, rfl, g1⟩ := h1.i_inv
  obtain ⟨_, rfl, g2⟩ := h2.i_inv
  obtain ⟨_, rfl, g3⟩ := h3.i_inv
  obtain ⟨_, rfl, g4⟩ := h4.i_inv
  obtain ⟨_, rfl, g5⟩ := h5.i_inv
  obtain ⟨_, rfl, g6⟩ := h6.i_inv
  obtain ⟨_, rfl, g7⟩ := h7.i_inv
  exact ⟨⟨_, _, _, _, _, _, _, _⟩, rfl, i64r_of g1, i64r_of g2, i64r_of g3, i64r_of g4, i64r_of g5, i64r_of g6, i64r_of g7⟩
abbrev rL : List Lf := [.i .i64, .i .i64, .i .i64, .i .i64]
theorem fitR {a : AV} (h : FitT true rL a) : ∃ r : R, a = .ag (rc r) := by
  obtain ⟨cs, rfl, h⟩ := h
  obtain ⟨_, _, rfl, h0, h⟩ := h.cons_inv
  obtain ⟨_, _, rfl, h1, h⟩ := h.cons_inv
  obtain ⟨_, _, rfl, h2, h⟩ := h.cons_inv
  obtain ⟨_, _, rfl, h3, h⟩ := h.cons_inv
  obtain rfl := h.nil_inv
  obtain ⟨_, rfl, _⟩ := h0.i_inv
  obtain ⟨_, rfl, _⟩ := h1.i_inv
  obtain ⟨_, rfl, _⟩ := h2.i_inv
  obtain ⟨_, rfl, _⟩ := h3.i_inv
  exact ⟨⟨_, _, _, _⟩, rfl⟩
end Go.Proofs.YtohedpgoioemnaaDoor
