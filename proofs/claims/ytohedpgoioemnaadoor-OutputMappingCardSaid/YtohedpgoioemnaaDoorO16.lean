/-
  OutputMapping: for every output and rectangle the law returns true, and its arguments read as they did; its row's variable is tied to the program's text. No conditions: every input that the row admits.
-/
import Derived.Test.YtohedpgoioemnaaDoorO15
import Derived.Test.YtohedpgoioemnaaDoorO9
namespace Go.Proofs.YtohedpgoioemnaaDoor
open Go Go.Ab Go.RowKit
set_option linter.unusedSimpArgs false
set_option linter.unusedVariables false
set_option linter.unnecessarySimpa false

attribute [local simp] condK_true condK_false condK_not wpc_skip wpc_ret wpc_exit wpc_seq wpc_reg wpc_regD testA_bool wpc_cond wpc_block thenA_normal thenA_ret thenA_exit blockA_normal blockA_ret blockA_exit blockA_other endA_normal endA_ret ev_tmp' ev_const ev_func ev_global cv_int cv_bool cv_string cv_pointer cv_slice cv_agg put_some put_none wH_s setE_apply setE_env less_eq env_cons env_nil upd_apply del_apply startA_eq cells_ag cells_sl one_sl cells_vs one_vs cells_ep one_ep cells_fn one_fn cells_int one_int cells_bool one_bool cells_string one_string cells_pointer one_pointer cells_slice one_slice cells_map one_map cells_agg resK_one resK_nil resK_two rvK_t rvK_c rvsK_nil rvsK_cons iseq_nil iseq_cons gdA_true gdA_false gdA_undef istep_free istep_guard istepV_free istepV_guard dseq_nil dseq_pu dseq_rd dseq_ef chkAll_nil chkAll_cons andK_true pickK_true pickK_false pickK_tb pickK_fb bin2K_pl eqbK_eq eqbK_ne eqpK_eq eqpK_ne un1K_pl convK_int fillK_some fillA_cons fillA_nil cellsK_some needK_true needK_ok seeK_ep seeK_ptr oneK_agg oneK_one nilcK_ptr nilcK_ep fadrK_ptr fadrK_ep fldK_ag iadAK_ptr iadAK_ep iadSK_sl iadSK_vs extK_0 extK_1 extK_2 extK_3 lenK_pl lenK_sl lenK_vs lensK_pl boxK_some minmax1K_int storeK_ptr callvK_fn callvK_pl newsK_nil newsK_vs newsK_sl appK_nil appK_nil0 appK_sl appK_vs bnd1K_int bndK_none bndK_some slsK_vs slsK_nil slsK_sl0 slsK_sl slstrK_pl boolK_some eqsK_ag iop_eqs iop_sls iop_slstr seesK_some seesK_ro mapsK_some MAP_some findK_some findK_none plK_pl nmapK_none nmapK_some iop_mlook iop_mlen iop_mmk iop_mupd iop_mdel iop_mrng itK_none itK_some ptr0K_ptr iop_mnxt iop_ment it1K_some entK_some iop_mov iop_pick iop_bin iop_eqb iop_eqp iop_un iop_conv iop_build iop_load iop_nilc iop_fadr iop_fld iop_iadA iop_iadS iop_ext iop_mkf iop_len iop_lens iop_minmax iop_al iop_box iop_bsl iop_store iop_call iop_callv iop_app BIN_add BIN_sub BIN_mul BIN_and BIN_or BIN_xor BIN_andNot BIN_eql BIN_neq BIN_lss BIN_leq BIN_gtr BIN_geq BIN_quo BIN_rem BIN_shl BIN_shr BIN_sadd BIN_seql BIN_sneq BIN_slss BIN_sleq BIN_sgtr BIN_sgeq UN_neg UN_xor UN_not MM_nil MM_cons partsA argsA ptrA lessL eqL min2I slotN_int slotP_int slotI_int
attribute [local simp] rc_len rc_t4 rc_t1 rc_t2 rc_t3 rc_d1 rc_d2 rc_d3 rc_d4 rc_ag rc_one rc_eq pc_len pc_t1 pc_t2 pc_d1 pc_d2 pc_ag pc_one oc_len oc_tt oc_dd oc_one oc_ag oc_t1 oc_t2 oc_t3 oc_t4 oc_t5 oc_t6 oc_t7 oc_d1 oc_d2 oc_d3 oc_d4 oc_d5 oc_d6 oc_d7 min2_t min2_f

theorem img_mk (o : O) : (⟨0, 0, o.w, o.h⟩ : R) = imgO o := rfl
theorem mulk (k a : Int) (hk : 1 ≤ k ∧ k ≤ 4) (ha : 0 ≤ a ∧ a ≤ 65536) :
    IntKind.i64.wrap (k * k) = k * k ∧ IntKind.i64.wrap (k * k * a) = k * k * a ∧ IntKind.i64.wrap (a * k) = a * k ∧ IntKind.i64.wrap (a * k * k) = a * k * k := by
  rcases k4 k hk with rfl | rfl | rfl | rfl <;> exact ⟨IntWalk.i64_in _ (by omega), IntWalk.i64_in _ (by omega), IntWalk.i64_in _ (by omega), IntWalk.i64_in _ (by omega)⟩
theorem mulwh (a b : Int) (ha : 1 ≤ a ∧ a ≤ 256) (hb : 1 ≤ b ∧ b ≤ 256) : IntKind.i64.wrap (a * b) = a * b := by
  have h1 : 0 ≤ a * b := Int.mul_nonneg (by omega) (by omega)
  have h2 : a * b ≤ 256 * 256 := Int.mul_le_mul (show a ≤ 256 by omega) (show b ≤ 256 by omega) (by omega) (by omega)
  exact IntWalk.i64_in _ (by omega)
theorem lg_bad (o : O) (hc : ¬ chk o = 0) : lg o = ⟨0, 0, 0, 0⟩ := if_neg hc
theorem itv_bad (o : O) (hc : ¬ chk o = 0) : itv o = 0 := if_neg hc
theorem toPhys_bad (o : O) (r : R) (hc : ¬ chk o = 0) : toPhys o r = ⟨0, 0, 0, 0⟩ := if_neg hc
theorem toLog_bad (o : O) (r : R) (hc : ¬ chk o = 0) : toLog o r = ⟨0, 0, 0, 0⟩ := if_neg hc
theorem c4 (o : O) (r : R) : PT Tryd.prog 4 [.ag (oc o), .ag (rc r)] (vb true) := by
  refine .tell fun H hTb => ?_
  refine call_c follows cf4_ok (by simp) ?_
  by_cases hs : (1000 : Int) < o.nm.size
  · repeat' (first | simp [*] | (with_reducible (refine newK_of fun _ h_ => ?_); (try simp only [upd_none', ne_eq] at h_)) | (with_reducible (refine condK_of (fun h_ => ?_) (fun h_ => ?_))) | with_reducible (refine (c6 ..).ac ?_) | with_reducible (refine (c5 ..).ac ?_) | with_reducible (refine (c12 ..).ac ?_) | with_reducible (refine (c11 ..).ac ?_) | with_reducible (refine (c13 ..).ac ?_) | with_reducible (refine (c7 ..).ac ?_) | with_reducible (refine (c9 ..).ac ?_) | with_reducible (refine (c14 ..).ac ?_) | with_reducible (refine (c10 ..).ac ?_) | (with_reducible refine (c8 ..).ac ?_ ?_; · (repeat' (first | assumption | (refine Ro.upd (by assumption) (by simp [*]) ?_)))))
    all_goals ((try with_reducible refine And.intro ?_ ?_) <;> (try (repeat' (first | with_reducible exact Sub.refl _ | with_reducible refine Sub.of_upd (by simp [*]) ?_))))
  by_cases hc : chk o = 0
  · cases he : rempty (rcap r (lg o)) with
    | true =>
      have hp : toPhys o r = ⟨0, 0, 0, 0⟩ := by simp [toPhys, he]
      repeat' (first | simp [*, req_refl, img_mk] | (with_reducible (refine newK_of fun _ h_ => ?_); (try simp only [upd_none', ne_eq] at h_)) | (with_reducible (refine condK_of (fun h_ => ?_) (fun h_ => ?_))) | with_reducible (refine (c6 ..).ac ?_) | with_reducible (refine (c5 ..).ac ?_) | with_reducible (refine (c12 ..).ac ?_) | with_reducible (refine (c11 ..).ac ?_) | with_reducible (refine (c13 ..).ac ?_) | with_reducible (refine (c7 ..).ac ?_) | with_reducible (refine (c9 ..).ac ?_) | with_reducible (refine (c14 ..).ac ?_) | with_reducible (refine (c10 ..).ac ?_) | (with_reducible refine (c8 ..).ac ?_ ?_; · (repeat' (first | assumption | (refine Ro.upd (by assumption) (by simp [*]) ?_)))))
      all_goals ((try with_reducible refine And.intro ?_ ?_) <;> (try (repeat' (first | with_reducible exact Sub.refl _ | with_reducible refine Sub.of_upd (by simp [*]) ?_))))
    | false =>
      have hin := cap_in _ _ he
      have hp : toPhys o r = phys o (rcap r (lg o)) := by simp [toPhys, he, hc]
      generalize hq : rcap r (lg o) = q at *
      obtain ⟨p1, p2⟩ := phys_in o hc q he hin
      have p3 := m_back o hc q he hin
      obtain ⟨p4, p5⟩ := m_all o hc
      have p6 := m_area o hc q he hin
      have p7 := m_area_all o hc
      have p8 := area_lg o hc q he hin
      obtain ⟨ht, hk, hw, hh, _⟩ := chk_dims o hc
      obtain ⟨w1, w2, _⟩ := mulk o.sc (rarea q) hk p8
      obtain ⟨_, _, w3, w4⟩ := mulk o.sc (rarea (lg o)) hk (area_lg o hc _ (lg_ne o hc) (inR_refl _))
      have w5 := mulwh o.w o.h hw hh
      have p9 : rin (phys o q) (imgO o) = true := (rin_iff _ _ p1).2 ⟨img_ne o hc, p2⟩
      clear hin p2 p8 ht hk hw hh
      repeat' (first | simp [*, req_refl, img_mk] | (with_reducible (refine newK_of fun _ h_ => ?_); (try simp only [upd_none', ne_eq] at h_)) | (with_reducible (refine condK_of (fun h_ => ?_) (fun h_ => ?_))) | with_reducible (refine (c6 ..).ac ?_) | with_reducible (refine (c5 ..).ac ?_) | with_reducible (refine (c12 ..).ac ?_) | with_reducible (refine (c11 ..).ac ?_) | with_reducible (refine (c13 ..).ac ?_) | with_reducible (refine (c7 ..).ac ?_) | with_reducible (refine (c9 ..).ac ?_) | with_reducible (refine (c14 ..).ac ?_) | with_reducible (refine (c10 ..).ac ?_) | (with_reducible refine (c8 ..).ac ?_ ?_; · (repeat' (first | assumption | (refine Ro.upd (by assumption) (by simp [*]) ?_)))))
      all_goals ((try with_reducible refine And.intro ?_ ?_) <;> (try (repeat' (first | with_reducible exact Sub.refl _ | with_reducible refine Sub.of_upd (by simp [*]) ?_))))
  · have h1 := lg_bad o hc
    have h2 := itv_bad o hc
    have h3 := toPhys_bad o r hc
    have h4 := toLog_bad o r hc
    repeat' (first | simp [*, req_refl] | (with_reducible (refine newK_of fun _ h_ => ?_); (try simp only [upd_none', ne_eq] at h_)) | (with_reducible (refine condK_of (fun h_ => ?_) (fun h_ => ?_))) | with_reducible (refine (c6 ..).ac ?_) | with_reducible (refine (c5 ..).ac ?_) | with_reducible (refine (c12 ..).ac ?_) | with_reducible (refine (c11 ..).ac ?_) | with_reducible (refine (c13 ..).ac ?_) | with_reducible (refine (c7 ..).ac ?_) | with_reducible (refine (c9 ..).ac ?_) | with_reducible (refine (c14 ..).ac ?_) | with_reducible (refine (c10 ..).ac ?_) | (with_reducible refine (c8 ..).ac ?_ ?_; · (repeat' (first | assumption | (refine Ro.upd (by assumption) (by simp [*]) ?_)))))
    all_goals ((try with_reducible refine And.intro ?_ ?_) <;> (try (repeat' (first | with_reducible exact Sub.refl _ | with_reducible refine Sub.of_upd (by simp [*]) ?_))))
end Go.Proofs.YtohedpgoioemnaaDoor
