/-
  OutputChecks: for every output and number the law returns true, and its arguments read as they did. No conditions: every input that the row admits.
-/
import Derived.Test.YtohedpgoioemnaaO9
import Derived.Test.YtohedpgoioemnaaRows
import Derived.WalkKit
import Derived.ProofKit
namespace Go.Proofs.Ytohedpgoioemnaa
open Go Go.Ab Go.RowKit Go.ChangeShapes Go.WideShapes Go.ChangeAt
set_option linter.unusedSimpArgs false
set_option linter.unusedVariables false
set_option linter.unnecessarySimpa false

attribute [local simp] condK_true condK_false condK_not wpc_skip wpc_ret wpc_exit wpc_seq wpc_reg wpc_regD testA_bool wpc_cond wpc_block thenA_normal thenA_ret thenA_exit blockA_normal blockA_ret blockA_exit blockA_other endA_normal endA_ret ev_tmp' ev_const ev_func ev_global cv_int cv_bool cv_string cv_pointer cv_slice cv_agg put_some put_none wH_s setE_apply setE_env less_eq env_cons env_nil upd_apply del_apply startA_eq cells_ag cells_sl one_sl cells_vs one_vs cells_ep one_ep cells_fn one_fn cells_int one_int cells_bool one_bool cells_string one_string cells_pointer one_pointer cells_slice one_slice cells_map one_map cells_agg resK_one resK_nil resK_two rvK_t rvK_c rvsK_nil rvsK_cons iseq_nil iseq_cons gdA_true gdA_false gdA_undef istep_free istep_guard istepV_free istepV_guard dseq_nil dseq_pu dseq_rd dseq_ef chkAll_nil chkAll_cons andK_true pickK_true pickK_false pickK_tb pickK_fb bin2K_pl eqbK_eq eqbK_ne eqpK_eq eqpK_ne un1K_pl convK_int fillK_some fillA_cons fillA_nil cellsK_some needK_true needK_ok seeK_ep seeK_ptr oneK_agg oneK_one nilcK_ptr nilcK_ep fadrK_ptr fadrK_ep fldK_ag iadAK_ptr iadAK_ep iadSK_sl iadSK_vs extK_0 extK_1 extK_2 extK_3 lenK_pl lenK_sl lenK_vs lensK_pl boxK_some minmax1K_int storeK_ptr callvK_fn callvK_pl newsK_nil newsK_vs newsK_sl appK_nil appK_nil0 appK_sl appK_vs bnd1K_int bndK_none bndK_some slsK_vs slsK_nil slsK_sl0 slsK_sl slstrK_pl boolK_some eqsK_ag iop_eqs iop_sls iop_slstr iop_mov iop_pick iop_bin iop_eqb iop_eqp iop_un iop_conv iop_build iop_load iop_nilc iop_fadr iop_fld iop_iadA iop_iadS iop_ext iop_mkf iop_len iop_lens iop_minmax iop_al iop_box iop_bsl iop_store iop_call iop_callv iop_app BIN_add BIN_sub BIN_mul BIN_and BIN_or BIN_xor BIN_andNot BIN_eql BIN_neq BIN_lss BIN_leq BIN_gtr BIN_geq BIN_quo BIN_rem BIN_shl BIN_shr BIN_sadd BIN_seql BIN_sneq BIN_slss BIN_sleq BIN_sgtr BIN_sgeq UN_neg UN_xor UN_not MM_nil MM_cons partsA argsA ptrA lessL eqL min2I slotN_int slotP_int
attribute [local simp] rc_len rc_t4 rc_t1 rc_t2 rc_t3 rc_d1 rc_d2 rc_d3 rc_d4 rc_ag rc_one rc_eq pc_len pc_t1 pc_t2 pc_d1 pc_d2 pc_ag pc_one oc_len oc_tt oc_dd oc_one oc_ag oc_t1 oc_t2 oc_t3 oc_t4 oc_t5 oc_t6 oc_t7 oc_d1 oc_d2 oc_d3 oc_d4 oc_d5 oc_d6 oc_d7 min2_t min2_f

theorem chkq_of (o : O) (h : chk o = 0) : ∀ p : O, p.nm = o.nm → chk p = 
    if okt p.tr = false then 2 else if p.sc < 1 then 2 else if 4 < p.sc then 2 else
    if lenok p.w p.sc = false then 6 else if lenok p.h p.sc = false then 6 else if p.rf < 1000 then 6 else if 240000 < p.rf then 6 else
    if okc p.x = false then 6 else if okc p.y = false then 6 else if rvalid (lrect p) = false then 6 else 0 := by
  intro p hp
  have := (chk_parts o h).1
  have : nmbad p = false := by rw [← this, nmbad, nmbad, hp]
  simp [chk, this]
theorem chkq_sc (o : O) (n : Int) (h : chk o = 0) : chk { o with sc := n } = 2 ↔ (n < 1 ∨ 4 < n) := by
  obtain ⟨h0, h1, h2, h3, h4, h5, h6, h7, h8, h9, h10⟩ := chk_parts o h
  rw [chkq_of o h { o with sc := n } rfl]
  simp only [h1]
  repeat' split
  all_goals simp_all
  all_goals omega
theorem chkq_tr (o : O) (n : Int) (h : chk o = 0) : chk { o with tr := n } = 2 ↔ (n < 0 ∨ 7 < n) := by
  obtain ⟨h0, h1, h2, h3, h4, h5, h6, h7, h8, h9, h10⟩ := chk_parts o h
  rw [chkq_of o h { o with tr := n } rfl]
  have e : okt n = false ↔ (n < 0 ∨ 7 < n) := by simp [okt]; omega
  simp only [e]
  repeat' split
  all_goals simp_all
  all_goals omega
theorem chkq_rf (o : O) (n : Int) (h : chk o = 0) : chk { o with rf := n } = 6 ↔ (n < 1000 ∨ 240000 < n) := by
  obtain ⟨h0, h1, h2, h3, h4, h5, h6, h7, h8, h9, h10⟩ := chk_parts o h
  rw [chkq_of o h { o with rf := n } rfl]
  have e : lrect { o with rf := n } = lrect o := rfl
  simp only [e]
  repeat' split
  all_goals simp_all
  all_goals omega
theorem chkq_w1 (o : O) (n : Int) (h : chk o = 0) (hl : lenok n o.sc = false) : chk { o with w := n } = 6 := by
  obtain ⟨h0, h1, h2, h3, h4, h5, h6, h7, h8, h9, h10⟩ := chk_parts o h
  rw [chkq_of o h { o with w := n } rfl]
  simp [h1, hl]; omega
theorem chkq_w2 (o : O) (n : Int) (h : chk o = 0) : chk { o with w := n } = 6 ∨ chk { o with w := n } = 0 := by
  obtain ⟨h0, h1, h2, h3, h4, h5, h6, h7, h8, h9, h10⟩ := chk_parts o h
  rw [chkq_of o h { o with w := n } rfl]
  repeat' split
  all_goals simp_all
  all_goals omega
theorem chkq_nm (o : O) (n : Int) : chk { o with rf := n, nm := ⟨#[]⟩ } = 2 := by
  have : nmbad { o with rf := n, nm := ⟨#[]⟩ } = true := by simp [nmbad, empty_size]
  simp [chk, this]
theorem eq_nm (o : O) (n : Int) (h : chk o = 0) : eqO o { o with rf := n, nm := ⟨#[]⟩ } = false := by
  have := (chk_parts o h).1
  simp only [nmbad, Bool.or_eq_false_iff] at this
  have e : (o.nm.toList == (⟨#[]⟩ : ByteArray).toList) = false := by
    have e2 : (⟨#[]⟩ : ByteArray).toList = [] := by rw [ByteArray.toList_eq]
    rw [e2]
    cases hl : o.nm.toList with
    | nil => rw [hl] at this; simp at this
    | cons a l => rfl
  unfold eqO
  simp only [e, Bool.false_and]
theorem itv_near (o : O) (h : chk o = 0) : 2 * (itv o * o.rf - 1000000000000) ≤ o.rf ∧ -2 * (itv o * o.rf - 1000000000000) < o.rf ∧ 0 ≤ itv o ∧ itv o * o.rf ≤ 3000000000000 ∧ 0 ≤ itv o * o.rf := by
  obtain ⟨h0, h1, h2, h3, h4, h5, h6, h7, h8, h9, h10⟩ := chk_parts o h
  have e : itv o = (2000000000000 + o.rf) / (2 * o.rf) := if_pos h
  have p1 := Int.mul_ediv_self_le (x := 2000000000000 + o.rf) (k := 2 * o.rf) (by omega)
  have p2 := Int.lt_mul_ediv_self_add (x := 2000000000000 + o.rf) (k := 2 * o.rf) (by omega)
  rw [← e] at p1 p2
  have p3 : 0 ≤ itv o := by rw [e]; exact Int.ediv_nonneg (by omega) (by omega)
  have e2 : 2 * o.rf * itv o = 2 * (itv o * o.rf) := by rw [Int.mul_assoc, Int.mul_comm o.rf]
  rw [e2] at p1 p2
  have p4 : 0 ≤ itv o * o.rf := Int.mul_nonneg p3 (by omega)
  generalize itv o * o.rf = z at *
  omega
set_option maxHeartbeats 2000000 in
theorem law4 (o : O) (n : Int) (hn : i64r n) : PC Try.prog 4 [.ag (oc o), vi n] (vb true) := by
  refine .tell fun H => ?_
  refine call_c follows cf4_ok (by simp) ?_
  by_cases hs : (1000 : Int) < o.nm.size
  · repeat' (first | simp [hs] | (with_reducible (refine newK_of fun _ h_ => ?_); (try simp only [upd_none', ne_eq] at h_)) | (with_reducible (refine condK_of (fun h_ => ?_) (fun h_ => ?_))) | with_reducible (refine (c5 ..).ac ?_))
    all_goals ((try with_reducible refine And.intro ?_ ?_) <;> (try (repeat' (first | with_reducible exact Sub.refl _ | with_reducible refine Sub.of_upd (by simp [*]) ?_))))
  by_cases hc : chk o = 0
  · have q1 := chkq_sc o n hc
    have q2 := chkq_tr o n hc
    have q3 := chkq_rf o n hc
    have q5 := chkq_nm o n
    have q6 := eq_nm o n hc
    have q7 := itv_near o hc
    have q8 := chk_parts o hc
    have q9 : o.sc ≠ 0 := by omega
    have q10 := chkq_w2 o n hc
    have q11 := chkq_w1 o n hc
    have q12 := q8.2.2.2.2.2.2.1
    clear q8
    generalize hz : itv o * o.rf = z at q7
    have e1 : IntKind.i64.wrap z = z := IntWalk.i64_in _ (by omega)
    have e2 : IntKind.i64.wrap (z - 1000000000000) = z - 1000000000000 := IntWalk.i64_in _ (by omega)
    have e3 : IntKind.i64.wrap (2 * (z - 1000000000000)) = 2 * (z - 1000000000000) := IntWalk.i64_in _ (by omega)
    have e4 : IntKind.i64.wrap (-2 * (z - 1000000000000)) = -2 * (z - 1000000000000) := IntWalk.i64_in _ (by omega)
    have e4' : IntKind.i64.wrap (-(2 * (z - 1000000000000))) = -(2 * (z - 1000000000000)) := IntWalk.i64_in _ (by omega)
    have e5 : 2 * (z - 1000000000000) ≤ o.rf := q7.1
    have e6 : -2 * (z - 1000000000000) < o.rf := q7.2.1
    have e6' : -(2 * (z - 1000000000000)) < o.rf := by omega
    clear q7
    by_cases a1 : n < 1 <;> by_cases a2 : 4 < n <;> by_cases a3 : n < 0 <;> by_cases a4 : 7 < n <;> by_cases a5 : n < 1000 <;> by_cases a6 : 240000 < n <;> by_cases a7 : 1 ≤ n <;> by_cases a8 : n ≤ 256 <;> (try omega)
    all_goals (simp only [a1, a2, a3, a4, a5, a6, false_or, or_false, true_or, or_true, iff_false, iff_true, or_self] at q1 q2 q3)
    all_goals (rcases q10 with q4 | q4 <;> cases hl : lenok n o.sc <;> (try have q4' := q11 hl) <;> (try (rw [q4] at q4'; cases q4')) <;> (clear q11; simp only [lenok, a7, a8, decide_true, decide_false, Bool.true_and, Bool.and_true, Bool.false_and, Bool.and_false, decide_eq_false_iff_not, decide_eq_true_eq, Bool.false_eq_true] at hl))
    all_goals (repeat' (first | simp [*] | (with_reducible (refine newK_of fun _ h_ => ?_); (try simp only [upd_none', ne_eq] at h_)) | (with_reducible (refine condK_of (fun h_ => ?_) (fun h_ => ?_))) | with_reducible (refine (c5 ..).ac ?_) | with_reducible (refine (c6 ..).ac ?_) | with_reducible (refine (c8 ..).ac ?_) | with_reducible (refine (c12 ..).ac ?_)))
    all_goals ((try with_reducible refine And.intro ?_ ?_) <;> (try (repeat' (first | with_reducible exact Sub.refl _ | with_reducible refine Sub.of_upd (by simp [*]) ?_))))
    all_goals (simp_all <;> omega)
  · repeat' (first | simp [hs, hc] | (with_reducible (refine newK_of fun _ h_ => ?_); (try simp only [upd_none', ne_eq] at h_)) | (with_reducible (refine condK_of (fun h_ => ?_) (fun h_ => ?_))) | with_reducible (refine (c5 ..).ac ?_) | with_reducible (refine (c6 ..).ac ?_))
    all_goals ((try with_reducible refine And.intro ?_ ?_) <;> (try (repeat' (first | with_reducible exact Sub.refl _ | with_reducible refine Sub.of_upd (by simp [*]) ?_))))

theorem law_OutputChecks (xs : List AV) (hf : FitsT [(true, oL), (false, [.i .i64])] xs) : ACall Try.prog 4 xs (fun _ => none) (fun v _ => v = vb true) := by
  match xs, hf with
  | [a, b], ⟨h1, h2, _⟩ =>
    obtain ⟨a, rfl, _⟩ := fitO h1
    obtain ⟨b, rfl, hb⟩ := (FitL.one_inv h2).i_inv
    exact (law4 a b (i64r_of hb)).same rfl

theorem outputChecks_lifted (os : Os) (started : os.Started) (H : Type) (enc : TypeId × Value → H) :
    ReturnsInHanded {} Try.checked os 4 .any (Rows.outputChecksSpec.pre6 enc Try.prog Try.f4 Rows.outputChecksRow.domain false) (Rows.outputChecksSpec.post enc Try.prog Try.f4 false true false false) := by
  refine returnsInHanded_of_change_sized (C := Try.checked) own started (by kernel_rfl) Try.func4
    (ChangeSpec.witness6 (enc := enc) (C := Try.checked) false ⟨#[], #[.agg #[.string ⟨#[]⟩, .int .i64 0, .int .i64 0, .int .i64 0, .int .i64 0, .int .i64 0, .int .i64 0, .int .i64 0], .int .i64 0], []⟩ 8 (by kernel_rfl) (by kernel_rfl) (by kernel_rfl) (by kernel_rfl)) ?_
  intro W base args ds gs before hval hW _ _ _
  refine law_contract (L := [(true, oL), (false, [.i .i64])]) laidOut (by kernel_rfl) rfl (fun ds hd => ?_) ⟨_, rfl, by kernel_rfl⟩ ?_ (fun xs hf => law_OutputChecks xs hf) W base args ds gs before hval hW
  · match ds, hd with
    | [d0, d1], _ => exact ⟨rfl, rfl, rfl⟩
  · exact of_decide_eq_true (by kernel_rfl)

theorem outputChecks_holds : Rows.OutputChecksSaid :=
  OpenClaim.holds_of_wide 4 Try.f4 rfl rfl rfl rfl rfl rfl rfl ⟨rfl, rfl, rfl, rfl, rfl⟩ rfl rfl rfl rfl rfl (by kernel_rfl) Try.func4 (by kernel_rfl)
    (of_decide_eq_true (by kernel_rfl)) (by unfold Func.isWrapper; first | (rw [if_pos (by decide +kernel)]; kernel_rfl) | (rw [if_neg (by decide +kernel)]; exact ⟨rfl, rfl⟩))
    (fun os started H enc _ => outputChecks_lifted os started H enc)
end Go.Proofs.Ytohedpgoioemnaa
