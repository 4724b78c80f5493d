/-
  The reference, walked: begins, check, open, Keys, Longest. Conditions: as each lemma states them.
-/
import Derived.Test.YtbdcnoahalknkaaD5
namespace Go.Proofs.Ytbdcnoahalknkaa
open Go Go.Ab Go.RowKit
set_option linter.unusedSimpArgs false
set_option linter.unusedVariables false
set_option linter.unnecessarySimpa false

attribute [local simp] condK_true condK_false condK_not wpc_skip wpc_ret wpc_exit wpc_seq wpc_reg wpc_regD testA_bool wpc_cond wpc_block thenA_normal thenA_ret thenA_exit blockA_normal blockA_ret blockA_exit blockA_other endA_normal endA_ret ev_tmp' ev_const ev_func ev_global cv_int cv_bool cv_string cv_pointer cv_slice cv_agg cv_map put_some put_none wH_s setE_apply setE_env less_eq env_cons env_nil upd_upd upd_apply del_apply startA_eq cells_ag cells_sl one_sl cells_vs one_vs cells_ep one_ep cells_fn one_fn cells_int one_int cells_bool one_bool cells_string one_string cells_pointer one_pointer cells_slice one_slice cells_map one_map cells_agg resK_one resK_nil resK_two rvK_t rvK_c rvsK_nil rvsK_cons iseq_nil iseq_cons gdA_true gdA_false gdA_undef istep_free istep_guard istepV_free istepV_guard dseq_nil dseq_pu dseq_rd dseq_ef wpc_regT dtree_nil dtree_pu dtree_rd dtree_ef dtree_br chkAll_nil chkAll_cons andK_true pickK_true pickK_false pickK_tb pickK_fb bin2K_pl eqbK_eq eqbK_ne eqpK_eq eqpK_ne eqmK_eq eqmK_ne eqzK_eq eqzK_ne eqzK_sl eqzK_vs un1K_pl convK_int fillK_some fillA_cons fillA_nil cellsK_some needK_true needK_ok seeK_ep seeK_ptr oneK_agg oneK_one nilcK_ptr nilcK_ep fadrK_ptr fadrK_ep fldK_ag iadAK_ptr iadAK_ep iadSK_sl iadSK_vs extK_0 extK_1 extK_2 extK_3 lenK_pl lenK_sl lenK_vs lensK_pl boxK_some minmax1K_int storeK_ptr callvK_fn callvK_pl newsK_nil newsK_vs newsK_sl appK_nil appK_nil0 appK_sl appK_vs bnd1K_int bndK_none bndK_some slsK_vs slsK_nil slsK_sl0 slsK_sl slstrK_pl boolK_some eqsK_ag iop_eqs iop_sls iop_slstr seesK_some seesK_ro mapsK_some MAP_some findK_some findK_none plK_pl nmapK_none nmapK_some iop_mlook iop_mlen iop_mmk iop_mupd iop_mdel iop_mrng itK_none itK_some ptr0K_ptr iop_mnxt iop_ment it1K_some entK_some iop_mov iop_pick iop_bin iop_eqb iop_eqp iop_eqm iop_eqz iop_un iop_conv iop_build iop_load iop_nilc iop_fadr iop_fld iop_iadA iop_iadS iop_ext iop_mkf iop_len iop_lens iop_minmax iop_al iop_box iop_bsl iop_store iop_call iop_callv iop_app BIN_add BIN_sub BIN_mul BIN_and BIN_or BIN_xor BIN_andNot BIN_eql BIN_neq BIN_lss BIN_leq BIN_gtr BIN_geq BIN_quo BIN_rem BIN_shl BIN_shr BIN_sadd BIN_seql BIN_sneq BIN_slss BIN_sleq BIN_sgtr BIN_sgeq UN_neg UN_xor UN_not MM_nil MM_cons partsA argsA ptrA lessL eqL min2I slotN_int slotP_int slotI_int

theorem Sr.at {H : AH} {a : AV} {L : List (AV × Sq)} {i : Nat} (h : Sr H a L) (hi : i < L.length) : ∃ p q0 q1, (∀ k : AV → Prop, @iadSK 2 a (vi i) ⟨k⟩ = k p) ∧ (∀ k : AV → Prop, @fadrK 0 p ⟨k⟩ = k q0) ∧ (∀ k : AV → Prop, @fadrK 1 p ⟨k⟩ = k q1) ∧
    (∀ H', Sub H H' → ∀ k : List AV → Prop, @SEE H' p 2 ⟨k⟩ = k [L[i].1, vs8 L[i].2.r]) ∧ (∀ H', Sub H H' → ∀ k : List AV → Prop, @SEE H' q0 1 ⟨k⟩ = k [L[i].1]) ∧ (∀ H', Sub H H' → ∀ k : List AV → Prop, @SEE H' q1 1 ⟨k⟩ = k [vs8 L[i].2.r]) := by
  obtain ⟨p, h1, h2⟩ := h.row.idx hi
  have e := flat_drop sqc_len L i hi
  rw [e] at h2
  have hl : 2 ≤ (sqc L[i] ++ flat sqc (L.drop (i + 1))).length := by rw [List.length_append, sqc_len]; omega
  obtain ⟨q0, h3, h4⟩ := h2.fadr (off := 0) (by omega)
  obtain ⟨q1, h5, h6⟩ := h2.fadr (off := 1) (by omega)
  refine ⟨p, q0, q1, h1, h3, h5, fun H' hs k => ?_, fun H' hs k => ?_, fun H' hs k => ?_⟩
  · rw [(h2.sub hs).see hl]; rfl
  · rw [(h4.sub hs).see (by rw [List.length_drop]; omega)]; rfl
  · rw [(h6.sub hs).see (by rw [List.length_drop]; omega)]; rfl
theorem c26 {H : AH} {K : AV → AH → Prop} {a b : AV} {l m : List Int} (ha : Ri H a l) (hb : Ri H b m) (hl : l.length ≤ maxLen) (hk : K (vb (l.isPrefixOf m)) H) : @AC Try.prog 26 [a, b] H ⟨K⟩ := by
  have la := fun k => ha.lenK (k := k)
  have lb := fun k => hb.lenK (k := k)
  have hmx : maxLen = 9223372036854775807 := rfl
  refine AC_of ?_
  refine call_c follows cf26_ok (by simp) ?_
  by_cases c1 : m.length < l.length
  · have : l.isPrefixOf m = false := by
      rw [Bool.eq_false_iff, ne_eq, List.isPrefixOf_iff_prefix]
      intro h; have := h.length_le; omega
    rw [this] at hk
    simp [la, lb, c1]
    exact hk
  simp [la, lb, c1]
  refine wpc_loop (fun s => ∃ i : Nat, s.n = 26 ∧ s.H = H ∧ s.t 0 = a ∧ s.t 1 = b ∧ s.t 5 = vi i ∧ i ≤ l.length ∧ l.take i = m.take i) (fun s => l.length - slotN (s.t 5)) ?_ ?_
  · exact FgK.same ⟨0, by simp, by simp, by simp, by simp, by simp, by omega, by simp⟩
  rintro s ⟨i, hn, hH, e0, e1, e5, hi, ht⟩
  by_cases hlt : i < l.length
  · have hlm : i < m.length := by omega
    have wr := IntWalk.i64_in ((i : Int) + 1) (by omega)
    obtain ⟨p, hp1, hp2⟩ := ha.see hlt
    obtain ⟨q, hq1, hq2⟩ := hb.see hlm
    by_cases c2 : l[i] = m[i]
    · simp (disch := omega) [hn, hH, e0, e1, e5, la, lb, hlt, hp1, hp2 _ (Sub.refl _), hq1, hq2 _ (Sub.refl _), c2, wr]
      refine FgK.same ⟨⟨i + 1, by simp, by simp, by simp, by simp, by simp, by omega, ?_⟩, by simp [e5]; omega⟩
      rw [List.take_succ_eq_append_getElem hlt, List.take_succ_eq_append_getElem hlm, ht, c2]
    · have : l.isPrefixOf m = false := by
        rw [Bool.eq_false_iff, ne_eq, List.isPrefixOf_iff_prefix]
        intro h; exact c2 (h.getElem hlt)
      rw [this] at hk
      simp (disch := omega) [hn, hH, e0, e1, e5, la, lb, hlt, hp1, hp2 _ (Sub.refl _), hq1, hq2 _ (Sub.refl _), c2]
      exact hk
  · have : l.isPrefixOf m = true := by
      rw [List.isPrefixOf_iff_prefix, List.prefix_iff_eq_take]
      rw [List.take_of_length_le (by omega)] at ht
      rw [ht]
      congr 1
      simp; omega
    rw [this] at hk
    simp (disch := omega) [hn, hH, e0, e1, e5, la, lb, hlt]
    exact hk
theorem c25 {H : AH} {K : AV → AH → Prop} {a : AV} (s : Sq) (ha : Ri H a s.ks) (hl : s.ks.length ≤ maxLen) (hk : K (vi (chk s)) H) : @AC Try.prog 25 [.ag [a, vs8 s.r]] H ⟨K⟩ := by
  have oa := ha.one
  have la := fun k => ha.lenK (k := k)
  refine AC_of (.forget ?_)
  refine call_c follows cf25_ok (by simp) ?_
  simp [oa]
  refine newK_of fun z hz => ?_
  have hS : Sub H (upd H z (.cells [a, vs8 s.r])) := (Sub.refl H).upd hz
  have hzz : (upd H z (.cells [a, vs8 s.r])) z = some (.cells [a, vs8 s.r]) := by simp [upd_apply]
  have ha2 := ha.sub hS
  generalize upd H z (.cells [a, vs8 s.r]) = H2 at *
  by_cases c1 : (s.ks.length : Int) < 1
  · have hc : chk s = 5 := by simp only [chk]; rw [if_pos (by omega)]
    rw [hc] at hk
    simp [la, c1, hzz]
    exact ⟨H, hS, hk⟩
  by_cases c2 : (6 : Int) < s.ks.length
  · have hc : chk s = 5 := by simp only [chk]; rw [if_pos (by omega)]
    rw [hc] at hk
    simp [la, c1, c2, hzz]
    exact ⟨H, hS, hk⟩
  have hc0 : chk s = if ∃ k ∈ s.ks, k < 1 then 6 else if s.r.size = 0 ∨ 16 < s.r.size then 3 else 0 := by simp only [chk]; rw [if_neg (by omega)]
  simp [la, c1, c2, hzz]
  refine wpc_loop (fun s' => ∃ i : Nat, s'.n = 36 ∧ s'.H = H2 ∧ s'.t 1 = pA z ∧ s'.t 3 = vi i ∧ i ≤ s.ks.length ∧ ∀ x ∈ s.ks.take i, 1 ≤ x) (fun s' => s.ks.length - slotN (s'.t 3)) ?_ ?_
  · exact FgK.same ⟨0, by simp, by simp, by simp, by simp, by omega, by simp⟩
  rintro s' ⟨i, hn, hH, e1, e3, hi, ht⟩
  by_cases hlt : i < s.ks.length
  · have wr := IntWalk.i64_in ((i : Int) + 1) (by omega)
    obtain ⟨p, hp1, hp2⟩ := ha2.see hlt
    by_cases c3 : s.ks[i] < 1
    · have hc : chk s = 6 := by rw [hc0, if_pos ⟨_, List.getElem_mem hlt, c3⟩]
      rw [hc] at hk
      simp (disch := omega) [hn, hH, e1, e3, la, hlt, hp1, hp2 _ (Sub.refl _), hzz, c3]
      exact ⟨H, hS, hk⟩
    · simp (disch := omega) [hn, hH, e1, e3, la, hlt, hp1, hp2 _ (Sub.refl _), hzz, c3, wr]
      refine FgK.same ⟨⟨i + 1, by simp, by simp, by simp, by simp, by omega, fun x hx => ?_⟩, by simp [e3]; omega⟩
      rw [List.take_succ_eq_append_getElem hlt] at hx
      rcases List.mem_append.1 hx with hx | hx
      · exact ht x hx
      · obtain rfl := List.mem_singleton.1 hx; omega
  · rw [List.take_of_length_le (by omega)] at ht
    rw [if_neg (by rintro ⟨k, h1, h2⟩; have := ht k h1; omega)] at hc0
    by_cases c4 : s.r = emp
    · have hc : chk s = 3 := by rw [hc0, if_pos (.inl ((emp_z _).2 c4))]
      rw [hc] at hk
      have g4 : s.r.toList.isEmpty = true := by rw [emp_b]; simp [c4]
      simp (disch := omega) [hn, hH, e1, e3, la, hlt, hzz, g4]
      exact ⟨H, hS, hk⟩
    · have c4' : ¬ s.r.size = 0 := fun e => c4 ((emp_z _).1 e)
      by_cases c5 : (16 : Int) < s.r.size
      · have hc : chk s = 3 := by rw [hc0, if_pos (.inr (by omega))]
        rw [hc] at hk
        simp (disch := omega) [hn, hH, e1, e3, la, hlt, hzz, emp_no c4, c5]
        exact ⟨H, hS, hk⟩
      · have hc : chk s = 0 := by rw [hc0, if_neg (by omega)]
        rw [hc] at hk
        simp (disch := omega) [hn, hH, e1, e3, la, hlt, hzz, emp_no c4, c5]
        exact ⟨H, hS, hk⟩
def opn1 (w : List Int) (s : Sq) : Bool := decide (0 < w.length) && decide (w.length < s.ks.length) && w.isPrefixOf s.ks
theorem opn_any (S : List Sq) (w : List Int) : opn S w = S.any (opn1 w) := rfl
theorem c30 {H : AH} {K : AV → AH → Prop} {a b : AV} {mk : Bool} {L : List (AV × Sq)} {w : List Int} (ha : Sr H a L) (hb : Ri H b w) (hl : L.length ≤ 1000000) (hw : w.length ≤ maxLen) (hk : K (vb (opn (sqs L) w)) H) :
    @AC Try.prog 30 [.ag [vb mk, a], b] H ⟨K⟩ := by
  have oa := ha.row.one
  have ob := hb.one
  have la := fun k => ha.row.lenK (k := k)
  have lb := fun k => hb.lenK (k := k)
  refine AC_of (.forget ?_)
  refine call_c follows cf30_ok (by simp) ?_
  simp [oa]
  refine newK_of fun z hz => ?_
  have hS : Sub H (upd H z (.cells [vb mk, a])) := (Sub.refl H).upd hz
  have hzz : (upd H z (.cells [vb mk, a])) z = some (.cells [vb mk, a]) := by simp [upd_apply]
  have ha2 := ha.sub hS
  have hb2 := hb.sub hS
  simp
  generalize upd H z (.cells [vb mk, a]) = H2 at *
  refine wpc_loop (fun s' => ∃ i : Nat, s'.n = 38 ∧ s'.H = H2 ∧ s'.t 1 = b ∧ s'.t 2 = pA z ∧ s'.t 5 = vi i ∧ i ≤ L.length ∧ (sqs (L.take i)).any (opn1 w) = false) (fun s' => L.length - slotN (s'.t 5)) ?_ ?_
  · exact FgK.same ⟨0, by simp, by simp, by simp, by simp, by simp, by omega, by simp [sqs]⟩
  rintro s' ⟨i, hn, hH, e1, e2, e5, hi, ht⟩
  by_cases hlt : i < L.length
  · have wr := IntWalk.i64_in ((i : Int) + 1) (by omega)
    obtain ⟨p, q0, q1, hp, hq0, hq1, s0, s1, s2⟩ := ha2.at hlt
    have hkey := ha2.key _ (List.getElem_mem hlt)
    have hst := sqs_take L i hlt
    have htr : opn1 w L[i].2 = true → opn (sqs L) w = true := fun h => by
      rw [opn_any, List.any_eq_true]
      exact ⟨_, List.mem_map_of_mem (List.getElem_mem hlt), h⟩
    have hfa : opn1 w L[i].2 = false → (sqs (L.take (i + 1))).any (opn1 w) = false := fun h => by
      rw [hst, List.any_append, ht]; simp [h]
    generalize L[i] = x at *
    obtain ⟨ax, sx⟩ := x
    simp only at hkey htr hfa hst s0 s1 s2
    have lx := fun k => hkey.lenK (k := k)
    have nxt : ∀ s1 : ASt, opn1 w sx = false → s1.n = 38 → s1.H = H2 → s1.t 1 = b → s1.t 2 = pA z → s1.t 5 = vi ((i : Int) + 1) → (∃ i : Nat, s1.n = 38 ∧ s1.H = H2 ∧ s1.t 1 = b ∧ s1.t 2 = pA z ∧ s1.t 5 = vi i ∧ i ≤ L.length ∧ (sqs (L.take i)).any (opn1 w) = false) ∧ L.length - slotN (s1.t 5) < L.length - slotN (s'.t 5) :=
      fun s1 h1 h2 h3 h4 h5 h6 => ⟨⟨i + 1, h2, h3, h4, h5, by rw [h6]; simp, by omega, hfa h1⟩, by rw [h6, e5]; simp [slotN]; omega⟩
    by_cases c1 : 0 < w.length
    · by_cases c2 : w.length < sx.ks.length
      · simp (disch := omega) [hn, hH, e1, e2, e5, la, lb, hlt, hp, hq0, hq1, s1 _ (Sub.refl _), hzz, lx, c1, c2]
        refine c26 hb2 hkey hw ?_
        cases c3 : w.isPrefixOf sx.ks with
        | true =>
          have := htr (by simp [opn1, c1, c2, c3])
          rw [this] at hk
          simp
          exact ⟨H, hS, hk⟩
        | false =>
          simp (disch := omega) [wr]
          exact FgK.same (nxt _ (by simp [opn1, c3]) (by simp) (by simp) (by simp) (by simp) (by simp))
      · simp (disch := omega) [hn, hH, e1, e2, e5, la, lb, hlt, hp, hq0, hq1, s1 _ (Sub.refl _), hzz, lx, c1, c2, wr]
        exact FgK.same (nxt _ (by simp [opn1, c2]) (by simp) (by simp) (by simp) (by simp) (by simp))
    · simp (disch := omega) [hn, hH, e1, e2, e5, la, lb, hlt, hp, hq0, hq1, s1 _ (Sub.refl _), hzz, lx, c1, wr]
      exact FgK.same (nxt _ (by simp [opn1, c1]) (by simp) (by simp) (by simp) (by simp) (by simp))
  · have : opn (sqs L) w = false := by rw [opn_any]; rw [List.take_of_length_le (by omega)] at ht; exact ht
    rw [this] at hk
    simp (disch := omega) [hn, hH, e1, e2, e5, la, lb, hlt, hzz]
    exact ⟨H, hS, hk⟩
theorem c16 {H : AH} {K : AV → AH → Prop} {a : AV} {mk : Bool} {L : List (AV × Sq)} (ha : Sr H a L) (hl : L.length ≤ 1000000) (hk : K (vi (longest (sqs L))) H) : @AC Try.prog 16 [.ag [vb mk, a]] H ⟨K⟩ := by
  have oa := ha.row.one
  have la := fun k => ha.row.lenK (k := k)
  refine AC_of (.forget ?_)
  refine call_c follows cf16_ok (by simp) ?_
  simp [oa]
  refine newK_of fun z hz => ?_
  have hS : Sub H (upd H z (.cells [vb mk, a])) := (Sub.refl H).upd hz
  have hzz : (upd H z (.cells [vb mk, a])) z = some (.cells [vb mk, a]) := by simp [upd_apply]
  have ha2 := ha.sub hS
  simp
  generalize upd H z (.cells [vb mk, a]) = H2 at *
  refine wpc_loop (fun s' => ∃ i : Nat, s'.n = 22 ∧ s'.H = H2 ∧ s'.t 1 = pA z ∧ s'.t 3 = vi (longest (sqs (L.take i))) ∧ s'.t 4 = vi i ∧ i ≤ L.length) (fun s' => L.length - slotN (s'.t 4)) ?_ ?_
  · exact FgK.same ⟨0, by simp, by simp, by simp, by simp [sqs, longest], by simp, by omega⟩
  rintro s' ⟨i, hn, hH, e1, e3, e4, hi⟩
  by_cases hlt : i < L.length
  · have wr := IntWalk.i64_in ((i : Int) + 1) (by omega)
    obtain ⟨p, q0, q1, hp, hq0, hq1, s0, s1, s2⟩ := ha2.at hlt
    have hkey := ha2.key _ (List.getElem_mem hlt)
    have hst := sqs_take L i hlt
    generalize L[i] = x at *
    obtain ⟨ax, sx⟩ := x
    simp only at hkey hst s0 s1 s2
    have lx := fun k => hkey.lenK (k := k)
    simp (disch := omega) [hn, hH, e1, e3, e4, la, hlt, hp, hq0, hq1, s1 _ (Sub.refl _), hzz, lx, wr]
    refine FgK.same ⟨⟨i + 1, by simp, by simp, by simp, ?_, by simp, by omega⟩, by simp [e4]; omega⟩
    rw [hst, longest_push]
    simp
    split <;> omega
  · rw [List.take_of_length_le (by omega)] at e3
    simp (disch := omega) [hn, hH, e1, e3, e4, la, hlt, hzz]
    exact ⟨H, hS, hk⟩
theorem c22 {H : AH} {K : AV → AH → Prop} {a b : AV} {mk : Bool} {L : List (AV × Sq)} {w : List Int} (ha : Sr H a L) (hb : Ri H b w) (hl : L.length ≤ 1000000) (hw : w.length ≤ 1000000)
    (hk : ∀ out H', Row H H' out ((was (sqs L) w).map vi) (was (sqs L) w).length 1 → K out H') : @AC Try.prog 22 [.ag [vb mk, a], .ag [b]] H ⟨K⟩ := by
  have oa := ha.row.one
  have ob := hb.one
  refine AC_of (.forget ?_)
  refine call_c follows cf22_ok (by simp) ?_
  simp [oa, ob]
  refine newK_of fun z hz => ?_
  simp [ob]
  refine newK_of fun y hy => ?_
  obtain ⟨n1, n2, hyH⟩ := upd_none'.1 hy
  have hS : Sub H (upd (upd H z (.cells [vb mk, a])) y (.cells [b])) := ((Sub.refl H).upd hz).upd hyH
  have hzz : (upd (upd H z (.cells [vb mk, a])) y (.cells [b])) z = some (.cells [vb mk, a]) := by simp [upd_apply, n2]
  have hyy : (upd (upd H z (.cells [vb mk, a])) y (.cells [b])) y = some (.cells [b]) := by simp [upd_apply]
  have ha2 := ha.sub hS
  have hb2 := hb.sub hS
  simp [n2]
  generalize upd (upd H z (.cells [vb mk, a])) y (.cells [b]) = H2 at *
  refine c30 ha2 hb2 hl (by have : maxLen = 9223372036854775807 := rfl; omega) ?_
  cases c1 : opn (sqs L) w with
  | false =>
    rw [was_no c1] at hk
    simp
    exact ⟨H, hS, hk vnil H (Row.nil H 1)⟩
  | true =>
    rw [was_yes c1] at hk
    simp
    refine newK_of fun q hq => ?_
    have hSq : Sub H2 (upd H2 q (.cells [])) := (Sub.refl H2).upd hq
    have nq := free_ne hq y (by simp [hyy])
    have hb3 := hb2.sub hSq
    generalize hx : AV.sl q 0 0 1 true = x
    simp [hyy, nq]
    rw [Ri.news hb3, ← hx]
    refine sl_app hq (Sub.refl _) (by simp) (by simp) (by omega) fun r H' hr hs => ?_
    simp
    have hrH := hS.none_of hr
    refine ⟨upd H r (.cells (w.map vi)), ?_, hk _ _ (Row.mk hrH)⟩
    refine Sub.trans ?_ (by simpa using hs)
    exact hS.cong
end Go.Proofs.Ytbdcnoahalknkaa
