/-
  From logical to physical rectangles. No conditions.
-/
import Derived.Test.YtohedpgoioemnaaDoorO6
import Derived.Test.YtohedpgoioemnaaDoorO7
namespace Go.Proofs.YtohedpgoioemnaaDoor
open Go Go.Ab Go.RowKit
set_option linter.unusedSimpArgs false
set_option linter.unusedVariables false
set_option linter.unnecessarySimpa false

attribute [local simp] condK_true condK_false condK_not wpc_skip wpc_ret wpc_exit wpc_seq wpc_reg wpc_regD testA_bool wpc_cond wpc_block thenA_normal thenA_ret thenA_exit blockA_normal blockA_ret blockA_exit blockA_other endA_normal endA_ret ev_tmp' ev_const ev_func ev_global cv_int cv_bool cv_string cv_pointer cv_slice cv_agg put_some put_none wH_s setE_apply setE_env less_eq env_cons env_nil upd_upd upd_apply del_apply startA_eq cells_ag cells_sl one_sl cells_vs one_vs cells_ep one_ep cells_fn one_fn cells_int one_int cells_bool one_bool cells_string one_string cells_pointer one_pointer cells_slice one_slice cells_map one_map cells_agg resK_one resK_nil resK_two rvK_t rvK_c rvsK_nil rvsK_cons iseq_nil iseq_cons gdA_true gdA_false gdA_undef istep_free istep_guard istepV_free istepV_guard dseq_nil dseq_pu dseq_rd dseq_ef chkAll_nil chkAll_cons andK_true pickK_true pickK_false pickK_tb pickK_fb bin2K_pl eqbK_eq eqbK_ne eqpK_eq eqpK_ne un1K_pl convK_int fillK_some fillA_cons fillA_nil cellsK_some needK_true needK_ok seeK_ep seeK_ptr oneK_agg oneK_one nilcK_ptr nilcK_ep fadrK_ptr fadrK_ep fldK_ag iadAK_ptr iadAK_ep iadSK_sl iadSK_vs extK_0 extK_1 extK_2 extK_3 lenK_pl lenK_sl lenK_vs lensK_pl boxK_some minmax1K_int storeK_ptr callvK_fn callvK_pl newsK_nil newsK_vs newsK_sl appK_nil appK_nil0 appK_sl appK_vs bnd1K_int bndK_none bndK_some slsK_vs slsK_nil slsK_sl0 slsK_sl slstrK_pl boolK_some eqsK_ag iop_eqs iop_sls iop_slstr seesK_some seesK_ro mapsK_some MAP_some findK_some findK_none plK_pl nmapK_none nmapK_some iop_mlook iop_mlen iop_mmk iop_mupd iop_mdel iop_mrng itK_none itK_some ptr0K_ptr iop_mnxt iop_ment it1K_some entK_some iop_mov iop_pick iop_bin iop_eqb iop_eqp iop_un iop_conv iop_build iop_load iop_nilc iop_fadr iop_fld iop_iadA iop_iadS iop_ext iop_mkf iop_len iop_lens iop_minmax iop_al iop_box iop_bsl iop_store iop_call iop_callv iop_app BIN_add BIN_sub BIN_mul BIN_and BIN_or BIN_xor BIN_andNot BIN_eql BIN_neq BIN_lss BIN_leq BIN_gtr BIN_geq BIN_quo BIN_rem BIN_shl BIN_shr BIN_sadd BIN_seql BIN_sneq BIN_slss BIN_sleq BIN_sgtr BIN_sgeq UN_neg UN_xor UN_not MM_nil MM_cons partsA argsA ptrA lessL eqL min2I slotN_int slotP_int slotI_int
attribute [local simp] rc_len rc_t4 rc_t1 rc_t2 rc_t3 rc_d1 rc_d2 rc_d3 rc_d4 rc_ag rc_one rc_eq pc_len pc_t1 pc_t2 pc_d1 pc_d2 pc_ag pc_one min2_t min2_f

theorem oc_len (r : O) : (oc r).length = 8 := rfl
theorem oc_tt (r : O) : (oc r).take 8 = oc r := rfl
theorem oc_dd (r : O) : (oc r).drop 8 = [] := rfl
theorem oc_one (r : O) : (oc r).all AV.one = true := rfl
theorem oc_t1 (r : O) : (oc r).take 1 = [vs8 r.nm] := rfl
theorem oc_d1 (r : O) : (oc r).tail = [vi r.w, vi r.h, vi r.rf, vi r.sc, vi r.tr, vi r.x, vi r.y] := rfl
theorem oc_t2 (r : O) : (oc r).take 2 = [vs8 r.nm, vi r.w] := rfl
theorem oc_d2 (r : O) : (oc r).drop 2 = [vi r.h, vi r.rf, vi r.sc, vi r.tr, vi r.x, vi r.y] := rfl
theorem oc_t3 (r : O) : (oc r).take 3 = [vs8 r.nm, vi r.w, vi r.h] := rfl
theorem oc_d3 (r : O) : (oc r).drop 3 = [vi r.rf, vi r.sc, vi r.tr, vi r.x, vi r.y] := rfl
theorem oc_t4 (r : O) : (oc r).take 4 = [vs8 r.nm, vi r.w, vi r.h, vi r.rf] := rfl
theorem oc_d4 (r : O) : (oc r).drop 4 = [vi r.sc, vi r.tr, vi r.x, vi r.y] := rfl
theorem oc_t5 (r : O) : (oc r).take 5 = [vs8 r.nm, vi r.w, vi r.h, vi r.rf, vi r.sc] := rfl
theorem oc_d5 (r : O) : (oc r).drop 5 = [vi r.tr, vi r.x, vi r.y] := rfl
theorem oc_t6 (r : O) : (oc r).take 6 = [vs8 r.nm, vi r.w, vi r.h, vi r.rf, vi r.sc, vi r.tr] := rfl
theorem oc_d6 (r : O) : (oc r).drop 6 = [vi r.x, vi r.y] := rfl
theorem oc_t7 (r : O) : (oc r).take 7 = [vs8 r.nm, vi r.w, vi r.h, vi r.rf, vi r.sc, vi r.tr, vi r.x] := rfl
theorem oc_d7 (r : O) : (oc r).drop 7 = [vi r.y] := rfl
theorem oc_ag (c0 : ByteArray) (c1 : Int) (c2 : Int) (c3 : Int) (c4 : Int) (c5 : Int) (c6 : Int) (c7 : Int) : AV.ag [vs8 c0, vi c1, vi c2, vi c3, vi c4, vi c5, vi c6, vi c7] = .ag (oc ⟨c0, c1, c2, c3, c4, c5, c6, c7⟩) := rfl
attribute [local simp] oc_len oc_tt oc_dd oc_one oc_ag oc_t1 oc_t2 oc_t3 oc_t4 oc_t5 oc_t6 oc_t7 oc_d1 oc_d2 oc_d3 oc_d4 oc_d5 oc_d6 oc_d7
def big (o : O) (r : R) : R := ⟨(r.x0 - o.x) * o.sc, (r.y0 - o.y) * o.sc, (r.x1 - o.x) * o.sc, (r.y1 - o.y) * o.sc⟩
def phys (o : O) (r : R) : R := trect o.tr (swp o.tr o.w o.h).1 (swp o.tr o.w o.h).2 (big o r)
theorem mul4 (a k : Int) (ha : -40000 ≤ a ∧ a ≤ 40000) (hk : 1 ≤ k ∧ k ≤ 4) : -160000 ≤ a * k ∧ a * k ≤ 160000 := by
  have : k = 1 ∨ k = 2 ∨ k = 3 ∨ k = 4 := by omega
  rcases this with rfl | rfl | rfl | rfl <;> omega
def rsmall (r : R) : Prop := (-16384 ≤ r.x0 ∧ r.x0 ≤ 16384) ∧ (-16384 ≤ r.y0 ∧ r.y0 ≤ 16384) ∧ (-16384 ≤ r.x1 ∧ r.x1 ≤ 16384) ∧ (-16384 ≤ r.y1 ∧ r.y1 ≤ 16384)
theorem rempty_small (r : R) (h : rempty r = false) : rsmall r := by have := rempty_ok r h; unfold rsmall; omega
theorem chk_parts (o : O) (h : chk o = 0) : nmbad o = false ∧ okt o.tr = true ∧ 1 ≤ o.sc ∧ o.sc ≤ 4 ∧ lenok o.w o.sc = true ∧ lenok o.h o.sc = true ∧ 1000 ≤ o.rf ∧ o.rf ≤ 240000 ∧ okc o.x = true ∧ okc o.y = true ∧ rvalid (lrect o) = true := by
  unfold chk at h
  repeat' (split at h <;> first | (exact absurd h (by decide)) | skip)
  simp_all
theorem c23 (o : O) (r : R) (hc : chk o = 0) (hr : rsmall r) : PC Tryd.prog 23 [.ag (oc o), .ag (rc r)] (.ag (rc (phys o r))) := by
  have hp := chk_parts o hc
  have hx : -16384 ≤ o.x ∧ o.x ≤ 16384 := by have := hp.2.2.2.2.2.2.2.2.1; simpa [okc] using this
  have hy : -16384 ≤ o.y ∧ o.y ≤ 16384 := by have := hp.2.2.2.2.2.2.2.2.2.1; simpa [okc] using this
  have hk : 1 ≤ o.sc ∧ o.sc ≤ 4 := ⟨hp.2.2.1, hp.2.2.2.1⟩
  unfold rsmall at hr
  have m0 := mul4 (r.x0 - o.x) o.sc (by omega) hk
  have m1 := mul4 (r.y0 - o.y) o.sc (by omega) hk
  have m2 := mul4 (r.x1 - o.x) o.sc (by omega) hk
  have m3 := mul4 (r.y1 - o.y) o.sc (by omega) hk
  clear hp
  refine .tell fun H => ?_
  refine call_c follows cf23_ok (by simp) ?_
  repeat' (first | simp [*] | (with_reducible (refine newK_of fun _ h_ => ?_); have hn_ := free_ne h_; (try simp only [upd_none', ne_eq] at h_)) | (with_reducible (refine condK_of (fun h_ => ?_) (fun h_ => ?_))) | with_reducible (refine (c25 ..).ac ?_) | with_reducible (refine (c26 ..).ac ?_) | simp (disch := omega) [*, IntWalk.i64_in])
  all_goals ((try with_reducible refine And.intro ?_ ?_) <;> (try (repeat' (first | with_reducible exact Sub.refl _ | with_reducible refine Sub.of_upd (by simp [*]) ?_))))
  all_goals simp_all [phys, big]
theorem good24 : goodCallee Tryd.prog 23 = true := by kernel_rfl
def toPhys (o : O) (r : R) : R := if chk o = 0 then (if rempty (rcap r (lg o)) then ⟨0, 0, 0, 0⟩ else phys o (rcap r (lg o))) else ⟨0, 0, 0, 0⟩
theorem c21p (o : O) (r im : R) :
    PC Tryd.prog 21 [.ag (oc o), .ag (rc r), .ag (rc im), .pl (.func (.func 23) #[] #[])]
      (.ag (rc (if chk o = 0 then (if rempty (rcap r im) then ⟨0, 0, 0, 0⟩ else phys o (rcap r im)) else ⟨0, 0, 0, 0⟩))) := by
  refine .tell fun H => ?_
  refine call_c follows cf21_ok (by simp) ?_
  by_cases hc : chk o = 0
  · cases he : rempty (rcap r im) with
    | true =>
      repeat' (first | simp [*] | (with_reducible (refine newK_of fun _ h_ => ?_); have hn_ := free_ne h_; (try simp only [upd_none', ne_eq] at h_)) | (with_reducible (refine condK_of (fun h_ => ?_) (fun h_ => ?_))) | with_reducible (refine (c7 ..).ac ?_) | with_reducible (refine (c5 ..).ac ?_) | with_reducible (refine (c9 ..).ac ?_))
      all_goals ((try with_reducible refine And.intro ?_ ?_) <;> (try (repeat' (first | with_reducible exact Sub.refl _ | with_reducible refine Sub.of_upd (by simp [*]) ?_))))
    | false =>
      have hs := rempty_small _ he
      repeat' (first | simp [*, good24] | (with_reducible (refine newK_of fun _ h_ => ?_); have hn_ := free_ne h_; (try simp only [upd_none', ne_eq] at h_)) | (with_reducible (refine condK_of (fun h_ => ?_) (fun h_ => ?_))) | with_reducible (refine (c7 ..).ac ?_) | with_reducible (refine (c5 ..).ac ?_) | with_reducible (refine (c9 ..).ac ?_) | with_reducible (refine (c23 _ _ hc hs).ac ?_))
      all_goals ((try with_reducible refine And.intro ?_ ?_) <;> (try (repeat' (first | with_reducible exact Sub.refl _ | with_reducible refine Sub.of_upd (by simp [*]) ?_))))
  · repeat' (first | simp [*] | (with_reducible (refine newK_of fun _ h_ => ?_); have hn_ := free_ne h_; (try simp only [upd_none', ne_eq] at h_)) | (with_reducible (refine condK_of (fun h_ => ?_) (fun h_ => ?_))) | with_reducible (refine (c7 ..).ac ?_) | with_reducible (refine (c5 ..).ac ?_) | with_reducible (refine (c9 ..).ac ?_))
    all_goals ((try with_reducible refine And.intro ?_ ?_) <;> (try (repeat' (first | with_reducible exact Sub.refl _ | with_reducible refine Sub.of_upd (by simp [*]) ?_))))
theorem c12 (o : O) (r : R) : PC Tryd.prog 12 [.ag (oc o), .ag (rc r)] (.ag (rc (toPhys o r))) := by
  refine .tell fun H => ?_
  refine call_c follows cf12_ok (by simp) ?_
  repeat' (first | simp [*] | (with_reducible (refine newK_of fun _ h_ => ?_); have hn_ := free_ne h_; (try simp only [upd_none', ne_eq] at h_)) | (with_reducible (refine condK_of (fun h_ => ?_) (fun h_ => ?_))) | with_reducible (refine (c11 ..).ac ?_) | with_reducible (refine (c21p ..).ac ?_))
  all_goals ((try with_reducible refine And.intro ?_ ?_) <;> (try (repeat' (first | with_reducible exact Sub.refl _ | with_reducible refine Sub.of_upd (by simp [*]) ?_))))
  all_goals (simp_all [toPhys] <;> omega)
end Go.Proofs.YtohedpgoioemnaaDoor
