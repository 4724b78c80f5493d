/-
  From physical to logical rectangles: what the program computes. Conditions: as each lemma states them.
-/
import Derived.Test.YtohedpgoioemnaaDoorO13
namespace Go.Proofs.YtohedpgoioemnaaDoor
open Go Go.Ab Go.RowKit
set_option linter.unusedSimpArgs false
set_option linter.unusedVariables false
set_option linter.unnecessarySimpa false

attribute [local simp] condK_true condK_false condK_not wpc_skip wpc_ret wpc_exit wpc_seq wpc_reg wpc_regD testA_bool wpc_cond wpc_block thenA_normal thenA_ret thenA_exit blockA_normal blockA_ret blockA_exit blockA_other endA_normal endA_ret ev_tmp' ev_const ev_func ev_global cv_int cv_bool cv_string cv_pointer cv_slice cv_agg put_some put_none wH_s setE_apply setE_env less_eq env_cons env_nil upd_upd upd_apply del_apply startA_eq cells_ag cells_sl one_sl cells_vs one_vs cells_ep one_ep cells_fn one_fn cells_int one_int cells_bool one_bool cells_string one_string cells_pointer one_pointer cells_slice one_slice cells_map one_map cells_agg resK_one resK_nil resK_two rvK_t rvK_c rvsK_nil rvsK_cons iseq_nil iseq_cons gdA_true gdA_false gdA_undef istep_free istep_guard istepV_free istepV_guard dseq_nil dseq_pu dseq_rd dseq_ef chkAll_nil chkAll_cons andK_true pickK_true pickK_false pickK_tb pickK_fb bin2K_pl eqbK_eq eqbK_ne eqpK_eq eqpK_ne un1K_pl convK_int fillK_some fillA_cons fillA_nil cellsK_some needK_true needK_ok seeK_ep seeK_ptr oneK_agg oneK_one nilcK_ptr nilcK_ep fadrK_ptr fadrK_ep fldK_ag iadAK_ptr iadAK_ep iadSK_sl iadSK_vs extK_0 extK_1 extK_2 extK_3 lenK_pl lenK_sl lenK_vs lensK_pl boxK_some minmax1K_int storeK_ptr callvK_fn callvK_pl newsK_nil newsK_vs newsK_sl appK_nil appK_nil0 appK_sl appK_vs bnd1K_int bndK_none bndK_some slsK_vs slsK_nil slsK_sl0 slsK_sl slstrK_pl boolK_some eqsK_ag iop_eqs iop_sls iop_slstr seesK_some seesK_ro mapsK_some MAP_some findK_some findK_none plK_pl nmapK_none nmapK_some iop_mlook iop_mlen iop_mmk iop_mupd iop_mdel iop_mrng itK_none itK_some ptr0K_ptr iop_mnxt iop_ment it1K_some entK_some iop_mov iop_pick iop_bin iop_eqb iop_eqp iop_un iop_conv iop_build iop_load iop_nilc iop_fadr iop_fld iop_iadA iop_iadS iop_ext iop_mkf iop_len iop_lens iop_minmax iop_al iop_box iop_bsl iop_store iop_call iop_callv iop_app BIN_add BIN_sub BIN_mul BIN_and BIN_or BIN_xor BIN_andNot BIN_eql BIN_neq BIN_lss BIN_leq BIN_gtr BIN_geq BIN_quo BIN_rem BIN_shl BIN_shr BIN_sadd BIN_seql BIN_sneq BIN_slss BIN_sleq BIN_sgtr BIN_sgeq UN_neg UN_xor UN_not MM_nil MM_cons partsA argsA ptrA lessL eqL min2I slotN_int slotP_int slotI_int
attribute [local simp] rc_len rc_t4 rc_t1 rc_t2 rc_t3 rc_d1 rc_d2 rc_d3 rc_d4 rc_ag rc_one rc_eq pc_len pc_t1 pc_t2 pc_d1 pc_d2 pc_ag pc_one oc_len oc_tt oc_dd oc_one oc_ag oc_t1 oc_t2 oc_t3 oc_t4 oc_t5 oc_t6 oc_t7 oc_d1 oc_d2 oc_d3 oc_d4 oc_d5 oc_d6 oc_d7 min2_t min2_f

def small4 (o : O) (r : R) : R := ⟨r.x0 / o.sc + o.x, r.y0 / o.sc + o.y, (r.x1 + o.sc - 1) / o.sc + o.x, (r.y1 + o.sc - 1) / o.sc + o.y⟩
def logi (o : O) (r : R) : R := small4 o (trect (invT o.tr) o.w o.h r)
theorem chk_dims (o : O) (h : chk o = 0) : (0 ≤ o.tr ∧ o.tr ≤ 7) ∧ (1 ≤ o.sc ∧ o.sc ≤ 4) ∧ (1 ≤ o.w ∧ o.w ≤ 256) ∧ (1 ≤ o.h ∧ o.h ≤ 256) ∧ o.w % o.sc = 0 ∧ o.h % o.sc = 0 ∧ (-16384 ≤ o.x ∧ o.x ≤ 16384) ∧ (-16384 ≤ o.y ∧ o.y ≤ 16384) := by
  obtain ⟨h0, h1, h2, h3, h4, h5, h6, h7, h8, h9, h10⟩ := chk_parts o h
  simp [okt] at h1
  simp [lenok] at h4 h5
  simp [okc] at h8 h9
  have e1 : o.w.tmod o.sc = o.w % o.sc := Int.tmod_eq_emod_of_nonneg (by omega)
  have e2 : o.h.tmod o.sc = o.h % o.sc := Int.tmod_eq_emod_of_nonneg (by omega)
  omega
theorem div_small (a k : Int) (ha : 0 ≤ a ∧ a ≤ 40000) (hk : 1 ≤ k ∧ k ≤ 4) : IntKind.i64.wrap (a.tdiv k) = a / k ∧ 0 ≤ a / k ∧ a / k ≤ 40000 := by
  have e : a.tdiv k = a / k := Int.tdiv_eq_ediv_of_nonneg ha.1
  have g1 : 0 ≤ a / k := Int.ediv_nonneg ha.1 (by omega)
  have g2 : a / k ≤ a := Int.ediv_le_self _ ha.1
  exact ⟨by rw [e, IntWalk.i64_in _ (by omega)], g1, by omega⟩
theorem c22 (o : O) (r : R) (hc : chk o = 0) (hr : rempty r = false) (hin : 0 ≤ r.x0 ∧ r.x1 ≤ o.w ∧ 0 ≤ r.y0 ∧ r.y1 ≤ o.h) : PT Tryd.prog 22 [.ag (oc o), .ag (rc r)] (.ag (rc (logi o r))) := by
  obtain ⟨ht, hk, hw, hh, hwk, hhk, hx, hy⟩ := chk_dims o hc
  have hr' := rempty_ok r hr
  have hT := trect_eq (invT o.tr) o.w o.h r (invT_rng _ ht) (by simp [inb]; omega) hr hin
  have hI := tr8_in (invT o.tr) o.w o.h r (invT_rng _ ht) (by omega)
  rw [← hT] at hI
  have hs : (swp (invT o.tr) o.w o.h).1 ≤ 256 ∧ (swp (invT o.tr) o.w o.h).2 ≤ 256 := by unfold swp; split <;> simp <;> omega
  have hL : logi o r = small4 o (trect (invT o.tr) o.w o.h r) := rfl
  rw [hL]
  clear hT
  generalize hq : trect (invT o.tr) o.w o.h r = q at hI
  have d0 := div_small q.x0 o.sc (by omega) hk
  have d1 := div_small q.y0 o.sc (by omega) hk
  have d2 := div_small (q.x1 + o.sc - 1) o.sc (by omega) hk
  have d3 := div_small (q.y1 + o.sc - 1) o.sc (by omega) hk
  have k0 : o.sc ≠ 0 := by omega
  refine .tell fun H hTb => ?_
  refine call_c follows cf22_ok (by simp) ?_
  repeat' (first | simp [*] | (with_reducible (refine newK_of fun _ h_ => ?_); have hn_ := free_ne h_; (try simp only [upd_none', ne_eq] at h_)) | (with_reducible (refine condK_of (fun h_ => ?_) (fun h_ => ?_))) | (with_reducible refine (c27 ..).ac ?_ ?_; · (repeat' (first | assumption | (refine Ro.upd (by assumption) (by simp [*]) ?_)))) | with_reducible (refine (c26 ..).ac ?_) | simp (disch := omega) [*, IntWalk.i64_in])
  all_goals ((try with_reducible refine And.intro ?_ ?_) <;> (try (repeat' (first | with_reducible exact Sub.refl _ | with_reducible refine Sub.of_upd (by simp [*]) ?_))))
  all_goals simp [small4]
theorem good25 : goodCallee Tryd.prog 22 = true := by kernel_rfl
def imgO (o : O) : R := ⟨0, 0, o.w, o.h⟩
def toLog (o : O) (r : R) : R := if chk o = 0 then (if rempty (rcap r (imgO o)) then ⟨0, 0, 0, 0⟩ else logi o (rcap r (imgO o))) else ⟨0, 0, 0, 0⟩
theorem c21l (o : O) (r : R) :
    PT Tryd.prog 21 [.ag (oc o), .ag (rc r), .ag (rc (imgO o)), .pl (.func (.func 22) #[] #[])] (.ag (rc (toLog o r))) := by
  refine .tell fun H hTb => ?_
  refine call_c follows cf21_ok (by simp) ?_
  unfold toLog
  by_cases hc : chk o = 0
  · cases he : rempty (rcap r (imgO o)) with
    | true =>
      repeat' (first | simp [*] | (with_reducible (refine newK_of fun _ h_ => ?_); have hn_ := free_ne h_; (try simp only [upd_none', ne_eq] at h_)) | (with_reducible (refine condK_of (fun h_ => ?_) (fun h_ => ?_))) | with_reducible (refine (c7 ..).ac ?_) | with_reducible (refine (c5 ..).ac ?_) | with_reducible (refine (c9 ..).ac ?_))
      all_goals ((try with_reducible refine And.intro ?_ ?_) <;> (try (repeat' (first | with_reducible exact Sub.refl _ | with_reducible refine Sub.of_upd (by simp [*]) ?_))))
    | false =>
      obtain ⟨e1, e2, e3⟩ := rcap_ne _ _ he
      have e4 := rempty_ok _ he
      have hin : 0 ≤ (rcap r (imgO o)).x0 ∧ (rcap r (imgO o)).x1 ≤ o.w ∧ 0 ≤ (rcap r (imgO o)).y0 ∧ (rcap r (imgO o)).y1 ≤ o.h := by
        rw [e1]; simp [imgO]; omega
      have hl := c22 o _ hc he hin
      clear e1 e2 e3 e4
      repeat' (first | simp [*, good25] | (with_reducible (refine newK_of fun _ h_ => ?_); have hn_ := free_ne h_; (try simp only [upd_none', ne_eq] at h_)) | (with_reducible (refine condK_of (fun h_ => ?_) (fun h_ => ?_))) | with_reducible (refine (c7 ..).ac ?_) | with_reducible (refine (c5 ..).ac ?_) | with_reducible (refine (c9 ..).ac ?_) | (with_reducible refine hl.ac ?_ ?_; · (repeat' (first | assumption | (refine Ro.upd (by assumption) (by simp [*]) ?_)))))
      all_goals ((try with_reducible refine And.intro ?_ ?_) <;> (try (repeat' (first | with_reducible exact Sub.refl _ | with_reducible refine Sub.of_upd (by simp [*]) ?_))))
  · repeat' (first | simp [*] | (with_reducible (refine newK_of fun _ h_ => ?_); have hn_ := free_ne h_; (try simp only [upd_none', ne_eq] at h_)) | (with_reducible (refine condK_of (fun h_ => ?_) (fun h_ => ?_))) | with_reducible (refine (c7 ..).ac ?_) | with_reducible (refine (c5 ..).ac ?_) | with_reducible (refine (c9 ..).ac ?_))
    all_goals ((try with_reducible refine And.intro ?_ ?_) <;> (try (repeat' (first | with_reducible exact Sub.refl _ | with_reducible refine Sub.of_upd (by simp [*]) ?_))))
theorem c8 (o : O) (r : R) : PT Tryd.prog 8 [.ag (oc o), .ag (rc r)] (.ag (rc (toLog o r))) := by
  have e : (⟨0, 0, o.w, o.h⟩ : R) = imgO o := rfl
  refine .tell fun H hTb => ?_
  refine call_c follows cf8_ok (by simp) ?_
  repeat' (first | simp [*] | (with_reducible (refine newK_of fun _ h_ => ?_); have hn_ := free_ne h_; (try simp only [upd_none', ne_eq] at h_)) | (with_reducible (refine condK_of (fun h_ => ?_) (fun h_ => ?_))) | (with_reducible refine (c21l ..).ac ?_ ?_; · (repeat' (first | assumption | (refine Ro.upd (by assumption) (by simp [*]) ?_)))))
  all_goals ((try with_reducible refine And.intro ?_ ?_) <;> (try (repeat' (first | with_reducible exact Sub.refl _ | with_reducible refine Sub.of_upd (by simp [*]) ?_))))
end Go.Proofs.YtohedpgoioemnaaDoor
