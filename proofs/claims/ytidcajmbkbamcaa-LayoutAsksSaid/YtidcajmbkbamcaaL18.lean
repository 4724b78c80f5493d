/-
  The reference's layout: rectangles, find, overlaps, At, Overlapping, New. Conditions: as each lemma states them.
-/
import Derived.Test.YtidcajmbkbamcaaL17
namespace Go.Proofs.Ytidcajmbkbamcaa
open Go Go.Ab Go.RowKit
set_option linter.unusedSimpArgs false
set_option linter.unusedVariables false
set_option linter.unnecessarySimpa false

attribute [local simp] condK_true condK_false condK_not wpc_skip wpc_ret wpc_exit wpc_seq wpc_reg wpc_regD testA_bool wpc_cond wpc_block thenA_normal thenA_ret thenA_exit blockA_normal blockA_ret blockA_exit blockA_other endA_normal endA_ret ev_tmp' ev_const ev_func ev_global cv_int cv_bool cv_string cv_pointer cv_slice cv_agg put_some put_none wH_s setE_apply setE_env less_eq env_cons env_nil upd_upd upd_apply del_apply startA_eq cells_ag cells_sl one_sl cells_vs one_vs cells_ep one_ep cells_fn one_fn cells_int one_int cells_bool one_bool cells_string one_string cells_pointer one_pointer cells_slice one_slice cells_map one_map cells_agg resK_one resK_nil resK_two rvK_t rvK_c rvsK_nil rvsK_cons iseq_nil iseq_cons gdA_true gdA_false gdA_undef istep_free istep_guard istepV_free istepV_guard dseq_nil dseq_pu dseq_rd dseq_ef chkAll_nil chkAll_cons andK_true pickK_true pickK_false pickK_tb pickK_fb bin2K_pl eqbK_eq eqbK_ne eqpK_eq eqpK_ne un1K_pl convK_int fillK_some fillA_cons fillA_nil cellsK_some needK_true needK_ok seeK_ep seeK_ptr oneK_agg oneK_one nilcK_ptr nilcK_ep fadrK_ptr fadrK_ep fldK_ag iadAK_ptr iadAK_ep iadSK_sl iadSK_vs extK_0 extK_1 extK_2 extK_3 lenK_pl lenK_sl lenK_vs lensK_pl boxK_some minmax1K_int storeK_ptr callvK_fn callvK_pl newsK_nil newsK_vs newsK_sl appK_nil appK_nil0 appK_sl appK_vs bnd1K_int bndK_none bndK_some slsK_vs slsK_nil slsK_sl0 slsK_sl slstrK_pl boolK_some eqsK_ag iop_eqs iop_sls iop_slstr seesK_some seesK_ro mapsK_some MAP_some findK_some findK_none plK_pl nmapK_none nmapK_some iop_mlook iop_mlen iop_mmk iop_mupd iop_mdel iop_mrng itK_none itK_some ptr0K_ptr iop_mnxt iop_ment it1K_some entK_some iop_mov iop_pick iop_bin iop_eqb iop_eqp iop_un iop_conv iop_build iop_load iop_nilc iop_fadr iop_fld iop_iadA iop_iadS iop_ext iop_mkf iop_len iop_lens iop_minmax iop_al iop_box iop_bsl iop_store iop_call iop_callv iop_app BIN_add BIN_sub BIN_mul BIN_and BIN_or BIN_xor BIN_andNot BIN_eql BIN_neq BIN_lss BIN_leq BIN_gtr BIN_geq BIN_quo BIN_rem BIN_shl BIN_shr BIN_sadd BIN_seql BIN_sneq BIN_slss BIN_sleq BIN_sgtr BIN_sgeq UN_neg UN_xor UN_not MM_nil MM_cons partsA argsA ptrA lessL eqL min2I slotN_int slotP_int slotI_int
attribute [local simp] oc_len oc_tt oc_dd oc_one oc_ag oc_t1 oc_t2 oc_t3 oc_t4 oc_t5 oc_t6 oc_t7 oc_d1 oc_d2 oc_d3 oc_d4 oc_d5 oc_d6 oc_d7 opq_len opq_tt opq_dd opq_one opq_ag opq_t1 opq_t2 opq_t3 opq_t4 opq_t5 opq_t6 opq_t7 opq_t8 opq_d1 opq_d2 opq_d3 opq_d4 opq_d5 opq_d6 opq_d7 opq_d8 rc_len rc_t4 rc_t1 rc_t2 rc_t3 rc_d1 rc_d2 rc_d3 rc_d4 rc_ag rc_one rc_eq min2_t min2_f

theorem c87 (n : Int) : PC Try.prog 87 [vi n] (vb (okc n)) := by
  refine .tell fun H => ?_
  refine call_c follows cf87_ok (by simp) ?_
  repeat' (first | simp [*] | (with_reducible (refine newK_of fun _ h_ => ?_); have hn_ := free_ne h_; (try simp only [upd_none', ne_eq] at h_)) | (with_reducible (refine condK_of (fun h_ => ?_) (fun h_ => ?_))))
  all_goals ((try with_reducible refine And.intro ?_ ?_) <;> (try (repeat' (first | with_reducible exact Sub.refl _ | with_reducible refine Sub.of_upd (by simp [*]) ?_))))
  all_goals (simp_all [okc] <;> omega)
theorem c71 (r : R) : PC Try.prog 71 [.ag (rc r)] (vb (rvalid r)) := by
  refine .tell fun H => ?_
  refine call_c follows cf71_ok (by simp) ?_
  repeat' (first | simp [*] | (with_reducible (refine newK_of fun _ h_ => ?_); have hn_ := free_ne h_; (try simp only [upd_none', ne_eq] at h_)) | (with_reducible (refine condK_of (fun h_ => ?_) (fun h_ => ?_))) | with_reducible (refine (c87 ..).ac ?_))
  all_goals ((try with_reducible refine And.intro ?_ ?_) <;> (try (repeat' (first | with_reducible exact Sub.refl _ | with_reducible refine Sub.of_upd (by simp [*]) ?_))))
  all_goals (simp_all [rvalid] <;> omega)
theorem c58 (r : R) : PC Try.prog 58 [.ag (rc r)] (vb (rempty r)) := by
  refine .tell fun H => ?_
  refine call_c follows cf58_ok (by simp) ?_
  repeat' (first | simp [*] | (with_reducible (refine newK_of fun _ h_ => ?_); have hn_ := free_ne h_; (try simp only [upd_none', ne_eq] at h_)) | (with_reducible (refine condK_of (fun h_ => ?_) (fun h_ => ?_))) | with_reducible (refine (c71 ..).ac ?_))
  all_goals ((try with_reducible refine And.intro ?_ ?_) <;> (try (repeat' (first | with_reducible exact Sub.refl _ | with_reducible refine Sub.of_upd (by simp [*]) ?_))))
  all_goals (simp_all [rempty] <;> omega)
theorem c73 (r : R) : PC Try.prog 73 [.ag (rc r)] (.ag (rc (rcan r))) := by
  refine .tell fun H => ?_
  refine call_c follows cf73_ok (by simp) ?_
  repeat' (first | simp [*] | (with_reducible (refine newK_of fun _ h_ => ?_); have hn_ := free_ne h_; (try simp only [upd_none', ne_eq] at h_)) | (with_reducible (refine condK_of (fun h_ => ?_) (fun h_ => ?_))) | with_reducible (refine (c58 ..).ac ?_))
  all_goals ((try with_reducible refine And.intro ?_ ?_) <;> (try (repeat' (first | with_reducible exact Sub.refl _ | with_reducible refine Sub.of_upd (by simp [*]) ?_))))
  all_goals (simp_all [rcan] <;> omega)
theorem c60 (a b : R) : PC Try.prog 60 [.ag (rc a), .ag (rc b)] (.ag (rc (rcap a b))) := by
  refine .tell fun H => ?_
  refine call_c follows cf60_ok (by simp) ?_
  repeat' (first | simp [*] | (with_reducible (refine newK_of fun _ h_ => ?_); have hn_ := free_ne h_; (try simp only [upd_none', ne_eq] at h_)) | (with_reducible (refine condK_of (fun h_ => ?_) (fun h_ => ?_))) | with_reducible (refine (c58 ..).ac ?_) | with_reducible (refine (c73 ..).ac ?_))
  all_goals ((try with_reducible refine And.intro ?_ ?_) <;> (try (repeat' (first | with_reducible exact Sub.refl _ | with_reducible refine Sub.of_upd (by simp [*]) ?_))))
  all_goals (simp_all [rcap] <;> omega)
theorem c46 (a b : R) : PC Try.prog 46 [.ag (rc a), .ag (rc b)] (vb (!rempty (rcap a b))) := by
  refine .tell fun H => ?_
  refine call_c follows cf46_ok (by simp) ?_
  repeat' (first | simp [*] | (with_reducible (refine newK_of fun _ h_ => ?_); have hn_ := free_ne h_; (try simp only [upd_none', ne_eq] at h_)) | (with_reducible (refine condK_of (fun h_ => ?_) (fun h_ => ?_))) | with_reducible (refine (c60 ..).ac ?_) | with_reducible (refine (c58 ..).ac ?_))
  all_goals ((try with_reducible refine And.intro ?_ ?_) <;> (try (repeat' (first | with_reducible exact Sub.refl _ | with_reducible refine Sub.of_upd (by simp [*]) ?_))))
  all_goals (simp_all [] <;> omega)
theorem rcont_empty {r : R} (h : rempty r = true) (x y : Int) : rcont r x y = false := by
  have e : rcan r = ⟨0, 0, 0, 0⟩ := by rw [rcan, h]; rfl
  rw [rcont, e]
  by_cases h1 : (0 : Int) ≤ x
  · have : ¬ x < 0 := by omega
    simp [this]
  · simp [h1]
theorem c43 (r : R) (x y : Int) : PC Try.prog 43 [.ag (rc r), vi x, vi y] (vb (rcont r x y)) := by
  refine .tell fun H => ?_
  refine call_c follows cf43_ok (by simp) ?_
  simp
  refine newK_of fun z hz => ?_
  simp
  refine (c58 r).ac ?_
  cases h : rempty r with
  | true =>
    rw [rcont_empty h]
    simp
    exact (Sub.refl H).upd hz
  | false =>
    have e : rcan r = r := by rw [rcan, h]; rfl
    rw [rcont, e]
    by_cases h1 : r.x0 ≤ x <;> by_cases h2 : x < r.x1 <;> by_cases h3 : r.y0 ≤ y <;> by_cases h4 : y < r.y1 <;> (simp [h1, h2, h3, h4]; exact (Sub.refl H).upd hz)
def fndF (s : ByteArray) : List O → Int → Int
  | [], _ => -1
  | x :: t, i => if x.nm = s then i else fndF s t (i + 1)
theorem oc_nm_at {L : List O} {i : Nat} (h : i < L.length) : ∃ rest, (flat oc L).drop (i * 8) = vs8 L[i].nm :: rest := ⟨_, flat_drop (enc := oc) (fun _ => rfl) L i h⟩
abbrev LR (H : AH) (x : AV) (L : List O) : Prop := RowIn H x (flat oc L) L.length 8
theorem c56 {H : AH} {K : AV → AH → Prop} {x : AV} (L : List O) (s : ByteArray) (hx : LR H x L) (hl : L.length ≤ 1000000)
    (hk : K (vi (fndF s L 0)) H) : @AC Try.prog 56 [.ag [vb true, x], vs8 s] H ⟨K⟩ := by
  refine AC_of (.forget ?_)
  have ox := hx.one
  refine call_c follows cf56_ok (by simp) ?_
  simp [ox]
  refine newK_of fun z hz => ?_
  have hS := (Sub.refl H).upd hz (o := .cells [vb true, x])
  have hzz : upd H z (.cells [vb true, x]) z = some (.cells [vb true, x]) := by simp [upd_apply]
  simp
  generalize upd H z (.cells [vb true, x]) = H2 at *
  have hx2 := hx.sub hS
  have lx := fun k => hx.lenK (k := k)
  refine wpc_loop (fun st => ∃ i : Nat, st.n = 22 ∧ st.H = H2 ∧ st.t 1 = vs8 s ∧ st.t 2 = pA z ∧ st.t 5 = vi i ∧ i ≤ L.length ∧ fndF s (L.drop i) i = fndF s L 0) (fun st => L.length - slotN (st.t 5)) ?_ ?_
  · exact FgK.same ⟨0, by simp, by simp, by simp, by simp, by simp, by omega, by simp⟩
  rintro st ⟨i, hn, hH, e1, e2, e5, hi, ht⟩
  have w := IntWalk.i64_in ((i : Int) + 1) (by omega)
  by_cases hlt : i < L.length
  · obtain ⟨rest, hd⟩ := oc_nm_at hlt
    have hbd : i * 8 + 1 ≤ (flat oc L).length := by rw [oc_flat_len]; omega
    rw [List.drop_eq_getElem_cons hlt, fndF] at ht
    generalize L[i] = o at hd ht
    obtain ⟨q, f, rfl, hq⟩ := hx2.sl (by omega)
    by_cases b1 : o.nm = s
    · rw [if_pos b1] at ht
      rw [← ht] at hk
      simp (disch := omega) [hn, hH, e1, e2, e5, hzz, hq, hd, hbd, hlt, bytes_beq, b1]
      exact ⟨H, hS, hk⟩
    · rw [if_neg b1] at ht
      simp (disch := omega) [hn, hH, e1, e2, e5, hzz, hq, hd, hbd, hlt, bytes_beq, b1, w]
      exact FgK.same ⟨⟨i + 1, by simp [hn], by simp [hH], by simp [e1], by simp [e2], by simp, by omega, by simpa using ht⟩, by simp [e5]; omega⟩
  · rw [List.drop_of_length_le (by omega), fndF] at ht
    rw [← ht] at hk
    simp (disch := omega) [hn, hH, e1, e2, e5, hzz, lx, hlt]
    exact ⟨H, hS, hk⟩
def ovkF (o : O) (k : Int) : List O → Int → Bool
  | [], _ => false
  | x :: t, i => if i ≠ k ∧ rempty (rcap (lg x) (lg o)) = false then true else ovkF o k t (i + 1)
theorem c57 {H : AH} {K : AV → AH → Prop} {x : AV} (L : List O) (o : O) (k : Int) (hx : LR H x L) (hl : L.length ≤ 1000000)
    (hk : K (vb (ovkF o k L 0)) H) : @AC Try.prog 57 [.ag [vb true, x], .ag (oc o), vi k] H ⟨K⟩ := by
  refine AC_of (.forget ?_)
  have ox := hx.one
  refine call_c follows cf57_ok (by simp) ?_
  simp [ox]
  refine newK_of fun z hz => ?_
  have hS := (Sub.refl H).upd hz (o := .cells [vb true, x])
  have hzz : upd H z (.cells [vb true, x]) z = some (.cells [vb true, x]) := by simp [upd_apply]
  simp
  generalize upd H z (.cells [vb true, x]) = H2 at *
  refine newK_of fun v hv => ?_
  have nvz := free_ne hv z (by simp [hzz])
  have hS2 := hS.trans ((Sub.refl H2).upd hv (o := .cells (oc o)))
  have hzz2 : upd H2 v (.cells (oc o)) z = some (.cells [vb true, x]) := by simp [upd_apply, nvz, hzz]
  have hvv : upd H2 v (.cells (oc o)) v = some (.cells (oc o)) := by simp [upd_apply]
  simp
  generalize upd H2 v (.cells (oc o)) = H3 at *
  have hx2 := hx.sub hS2
  have lx := fun k => hx.lenK (k := k)
  refine wpc_loop (fun st => ∃ i : Nat, st.n = 29 ∧ st.H = H3 ∧ st.t 2 = vi k ∧ st.t 3 = pA z ∧ st.t 4 = pA v ∧ st.t 7 = vi i ∧ i ≤ L.length ∧ ovkF o k (L.drop i) i = ovkF o k L 0) (fun st => L.length - slotN (st.t 7)) ?_ ?_
  · exact FgK.same ⟨0, by simp, by simp, by simp, by simp, by simp, by simp, by omega, by simp⟩
  rintro st ⟨i, hn, hH, e2, e3, e4, e7, hi, ht⟩
  have w := IntWalk.i64_in ((i : Int) + 1) (by omega)
  by_cases hlt : i < L.length
  · have hd := oc_at hlt
    have hbd : i * 8 + 8 ≤ (flat oc L).length := by rw [oc_flat_len]; omega
    rw [List.drop_eq_getElem_cons hlt, ovkF] at ht
    generalize L[i] = y at hd ht
    obtain ⟨q, f, rfl, hq⟩ := hx2.sl (by omega)
    by_cases b1 : (i : Int) = k
    · rw [if_neg (by omega)] at ht
      subst b1
      simp (disch := omega) [hn, hH, e2, e3, e4, e7, hzz2, lx, hlt, w]
      exact FgK.same ⟨⟨i + 1, by simp [hn], by simp [hH], by simp [e2], by simp [e3], by simp [e4], by simp, by omega, by simpa using ht⟩, by simp [e7]; omega⟩
    · simp (disch := omega) [hn, hH, e2, e3, e4, e7, hzz2, hvv, hq, hd, hbd, hlt, b1]
      refine (c25 y).ac ?_
      try simp (disch := omega) [hn, hH, e2, e3, e4, e7, hvv]
      refine (c25 o).ac ?_
      try simp (disch := omega) [hn, hH, e2, e3, e4, e7]
      refine (c46 (lg y) (lg o)).ac ?_
      cases b2 : rempty (rcap (lg y) (lg o)) with
      | false =>
        rw [if_pos ⟨b1, b2⟩] at ht
        rw [← ht] at hk
        simp (disch := omega) [hn, hH, e2, e3, e4, e7]
        exact ⟨H, hS2, hk⟩
      | true =>
        rw [if_neg (by simp [b2])] at ht
        simp (disch := omega) [hn, hH, e2, e3, e4, e7, w]
        exact FgK.same ⟨⟨i + 1, by simp [hn], by simp [hH], by simp [e2], by simp [e3], by simp [e4], by simp, by omega, by simpa using ht⟩, by simp [e7]; omega⟩
  · rw [List.drop_of_length_le (by omega), ovkF] at ht
    rw [← ht] at hk
    simp (disch := omega) [hn, hH, e2, e3, e4, e7, hzz2, lx, hlt]
    exact ⟨H, hS2, hk⟩
theorem c21 {H : AH} {K : AV → AH → Prop} {x : AV} (L : List O) (u v : Int) (hx : LR H x L) (hl : L.length ≤ 1000000)
    (hk : K (vs8 (atF L u v)) H) : @AC Try.prog 21 [.ag [vb true, x], vi u, vi v] H ⟨K⟩ := by
  refine AC_of (.forget ?_)
  have ox := hx.one
  refine call_c follows cf21_ok (by simp) ?_
  simp [ox]
  refine newK_of fun z hz => ?_
  have hS := (Sub.refl H).upd hz (o := .cells [vb true, x])
  have hzz : upd H z (.cells [vb true, x]) z = some (.cells [vb true, x]) := by simp [upd_apply]
  simp
  generalize upd H z (.cells [vb true, x]) = H2 at *
  have hx2 := hx.sub hS
  have lx := fun k => hx.lenK (k := k)
  refine wpc_loop (fun st => ∃ i : Nat, st.n = 30 ∧ st.H = H2 ∧ st.t 1 = vi u ∧ st.t 2 = vi v ∧ st.t 3 = pA z ∧ st.t 7 = vi i ∧ i ≤ L.length ∧ atF (L.drop i) u v = atF L u v) (fun st => L.length - slotN (st.t 7)) ?_ ?_
  · exact FgK.same ⟨0, by simp, by simp, by simp, by simp, by simp, by simp, by omega, by simp⟩
  rintro st ⟨i, hn, hH, e1, e2, e3, e7, hi, ht⟩
  have w := IntWalk.i64_in ((i : Int) + 1) (by omega)
  by_cases hlt : i < L.length
  · have hd := oc_at hlt
    obtain ⟨rest, hd1⟩ := oc_nm_at hlt
    have hbd : i * 8 + 8 ≤ (flat oc L).length := by rw [oc_flat_len]; omega
    have hbd1 : i * 8 + 1 ≤ (flat oc L).length := by omega
    rw [List.drop_eq_getElem_cons hlt] at ht
    generalize L[i] = y at hd ht hd1
    have hd2 : List.take 8 (vs8 y.nm :: rest) = oc y := by rw [← hd1]; exact hd
    obtain ⟨q, f, rfl, hq⟩ := hx2.sl (by omega)
    simp (disch := omega) [hn, hH, e1, e2, e3, e7, hzz, hq, hd, hbd, hlt]
    refine (c25 y).ac ?_
    simp (disch := omega) [hn, hH, e1, e2, e3, e7]
    refine (c43 (lg y) u v).ac ?_
    cases b1 : rcont (lg y) u v with
    | true =>
      have e : atF (y :: L.drop (i + 1)) u v = y.nm := by rw [atF, List.find?_cons, b1]
      rw [e] at ht
      rw [← ht] at hk
      simp (disch := omega) [hn, hH, e1, e2, e3, e7, hzz, hq, hd1, hbd1]
      exact ⟨H, hS, hk⟩
    | false =>
      have e : atF (y :: L.drop (i + 1)) u v = atF (L.drop (i + 1)) u v := by rw [atF, List.find?_cons, b1]; rfl
      rw [e] at ht
      simp (disch := omega) [hn, hH, e1, e2, e3, e7, w]
      exact FgK.same ⟨⟨i + 1, by simp [hn], by simp [hH], by simp [e1], by simp [e2], by simp [e3], by simp, by omega, ht⟩, by simp [e7]; omega⟩
  · rw [List.drop_of_length_le (by omega)] at ht
    have e : atF [] u v = ⟨#[]⟩ := rfl
    rw [e] at ht
    rw [← ht] at hk
    simp (disch := omega) [hn, hH, e1, e2, e3, e7, hzz, lx, hlt]
    exact ⟨H, hS, hk⟩
end Go.Proofs.Ytidcajmbkbamcaa
