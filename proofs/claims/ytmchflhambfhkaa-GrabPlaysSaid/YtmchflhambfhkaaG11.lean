/-
  What the comparison of two results tells. Conditions: the results' lists are rows of deliveries, the first shorter than 100.
-/
import Derived.Test.YtmchflhambfhkaaG10
namespace Go.Proofs.Ytmchflhambfhkaa
open Go Go.Ab Go.RowKit
set_option linter.unusedSimpArgs false
set_option linter.unusedVariables false
set_option linter.unnecessarySimpa false

attribute [local simp] condK_true condK_false condK_not wpc_skip wpc_ret wpc_exit wpc_seq wpc_reg wpc_regD testA_bool wpc_cond wpc_block thenA_normal thenA_ret thenA_exit blockA_normal blockA_ret blockA_exit blockA_other endA_normal endA_ret ev_tmp' ev_const ev_func ev_global cv_int cv_bool cv_string cv_pointer cv_slice cv_agg put_some put_none wH_s setE_apply less_eq env_cons env_nil upd_apply del_apply startA_eq cells_ag cells_sl one_sl cells_vs one_vs cells_ep one_ep cells_fn one_fn cells_int one_int cells_bool one_bool cells_string one_string cells_pointer one_pointer cells_slice one_slice cells_map one_map cells_agg resK_one resK_nil resK_two rvK_t rvK_c rvsK_nil rvsK_cons iseq_nil iseq_cons gdA_true gdA_false gdA_undef istep_free istep_guard istepV_free istepV_guard dseq_nil dseq_pu dseq_rd dseq_ef chkAll_nil chkAll_cons andK_true pickK_true pickK_false pickK_tb pickK_fb bin2K_pl eqbK_eq eqbK_ne eqpK_eq eqpK_ne un1K_pl convK_int fillK_some fillA_cons fillA_nil cellsK_some needK_true needK_ok seeK_ep seeK_ptr oneK_agg oneK_one nilcK_ptr nilcK_ep fadrK_ptr fadrK_ep fldK_ag iadAK_ptr iadAK_ep iadSK_sl iadSK_vs extK_0 extK_1 extK_2 extK_3 lenK_pl lenK_sl lenK_vs lensK_pl boxK_some minmax1K_int storeK_ptr callvK_fn callvK_pl newsK_nil newsK_vs newsK_sl appK_nil appK_nil0 appK_sl appK_vs bnd1K_int bndK_none bndK_some slsK_vs slsK_nil slsK_sl0 slsK_sl slstrK_pl boolK_some eqsK_ag iop_eqs iop_sls iop_slstr iop_mov iop_pick iop_bin iop_eqb iop_eqp iop_un iop_conv iop_build iop_load iop_nilc iop_fadr iop_fld iop_iadA iop_iadS iop_ext iop_mkf iop_len iop_lens iop_minmax iop_al iop_box iop_bsl iop_store iop_call iop_callv iop_app BIN_add BIN_sub BIN_mul BIN_and BIN_or BIN_xor BIN_andNot BIN_eql BIN_neq BIN_lss BIN_leq BIN_gtr BIN_geq BIN_quo BIN_rem BIN_shl BIN_shr BIN_sadd BIN_seql BIN_sneq BIN_slss BIN_sleq BIN_sgtr BIN_sgeq UN_neg UN_xor UN_not MM_nil MM_cons partsA argsA ptrA lessL eqL min2I
attribute [local simp] slotN_int slotP_int


theorem dcell_9 (l : List (Int × Int)) (j : Nat) (hj : j < l.length) : ((l.flatMap dcell).drop (j * 9)).take 9 = dcell l[j] := by
  rw [dcell_at l j hj]; rfl

theorem c14 {H : AH} (r1 r2 : Res) {a1 a2 : AV} {G1 G2 : Nat → Prop} (h1 : LRow H r1.l a1 G1) (h2 : LRow H r2.l a2 G2) (hl : r1.l.length < 100) {K : AV → AH → Prop}
    (hk : ∀ H', (∀ j, H j ≠ none → H' j = H j) → K (vb (decide (r1.e = r2.e ∧ r1.n = r2.n ∧ r1.ok = r2.ok ∧ r1.l = r2.l))) H') :
    ACall Try.prog 14 [.ag [vi r1.e, vi r1.n, vb r1.ok, a1], .ag [vi r2.e, vi r2.n, vb r2.ok, a2]] H K := by
  refine call_c follows cf14_ok (by simp) ?_
  simp
  refine newK_of fun p hp => ?_
  simp
  refine newK_of fun q hq => ?_
  obtain ⟨n1, hq⟩ := upd_none.1 hq
  have n2 := Ne.symm n1
  simp [n1, n2]
  have fr : ∀ (o1 o2 : AO) (j : Nat), H j ≠ none → upd (upd H p o1) q o2 j = H j := by
    intro o1 o2 j hj
    have n3 : j ≠ p := by rintro rfl; exact hj hp
    have n4 : j ≠ q := by rintro rfl; exact hj hq
    simp [n3, n4]
  replace hk := hk _ (fr (.cells [vi r1.e, vi r1.n, vb r1.ok, a1]) (.cells [vi r2.e, vi r2.n, vb r2.ok, a2]))
  by_cases e1 : r1.e = r2.e
  rotate_left
  · simp [e1] at hk ⊢
    exact hk
  by_cases e2 : r1.n = r2.n
  rotate_left
  · simp [e1, e2, n1, n2] at hk ⊢
    exact hk
  by_cases e3 : r1.ok = r2.ok
  rotate_left
  · have e3' : (r1.ok != r2.ok) = true := by simpa using e3
    simp [e1, e2, e3, e3', n1, n2] at hk ⊢
    exact hk
  have e3' : (r1.ok != r2.ok) = false := by simpa using e3
  simp [e1, e2, e3, n1, n2] at hk ⊢
  refine h1.len ?_
  simp [n1, n2]
  refine h2.len ?_
  simp [n1, n2]
  by_cases e4 : r1.l.length = r2.l.length
  rotate_left
  · have e5 : r1.l ≠ r2.l := fun h => e4 (by rw [h])
    have e4' : ¬ ((r1.l.length : Int) = r2.l.length) := by omega
    simp [e4', e5] at hk ⊢
    exact hk
  simp [e4]
  generalize hH0 : upd (upd H p (AO.cells [vi r2.e, vi r2.n, vb r2.ok, a1])) q (AO.cells [vi r2.e, vi r2.n, vb r2.ok, a2]) = H0 at *
  have g1 : H0 p = some (AO.cells [vi r2.e, vi r2.n, vb r2.ok, a1]) := by rw [← hH0]; simp [n1, n2]
  have g2 : H0 q = some (AO.cells [vi r2.e, vi r2.n, vb r2.ok, a2]) := by rw [← hH0]; simp
  have g3 : ∀ j, H j ≠ none → H0 j = H j := by rw [← hH0]; exact fr _ _
  clear hH0 fr
  refine wpc_loop (fun s => ∃ j : Nat, s.n = 52 ∧ s.H = H0 ∧ s.t 2 = ptrA p ∧ s.t 3 = ptrA q ∧ s.t 5 = vi j ∧ j ≤ r1.l.length ∧ r1.l.take j = r2.l.take j) (fun s => r1.l.length - slotN (s.t 5)) ?_ ?_
  · exact ⟨0, by simp⟩
  rintro s ⟨j, hn, hH, t2, t3, t5, hj, htk⟩
  simp [*]
  refine h1.len ?_
  simp
  refine condK_of (fun hc => ?_) (fun hc => ?_)
  · simp at hc
    have hc2 : j < r2.l.length := by omega
    obtain ⟨b1, x1, rfl, hb1⟩ := h1.at hc
    obtain ⟨b2, x2, rfl, hb2⟩ := h2.at hc2
    have k1 := dcell_9 r1.l j hc
    have k2 := dcell_9 r2.l j hc2
    have l1 := dcell_len r1.l
    have l2 := dcell_len r2.l
    have m1 : H0 b1 = some (.cells (r1.l.flatMap dcell)) := by rw [g3 b1 (by rw [hb1]; simp), hb1]
    have m2 : H0 b2 = some (.cells (r2.l.flatMap dcell)) := by rw [g3 b2 (by rw [hb2]; simp), hb2]
    generalize r1.l.flatMap dcell = X1 at *
    generalize r2.l.flatMap dcell = X2 at *
    have step : r1.l.take (j + 1) = r2.l.take (j + 1) ↔ r1.l[j] = r2.l[j] := by
      have a1 := List.take_append_getElem hc
      have a2 := List.take_append_getElem hc2
      rw [← a1, ← a2, htk]
      constructor
      · intro h
        have := List.append_cancel_left h
        simpa using this
      · intro h; rw [h]
    simp (disch := omega) [*, dcell]
    by_cases hx : r1.l[j] = r2.l[j]
    · have hx2 := step.2 hx
      simp [hx]
      simp (disch := omega) [*, IntWalk.i64_in]
      refine ⟨Hid.of ⟨j + 1, ?_⟩, by omega⟩
      simp [*]
      omega
    · have hne : r1.l ≠ r2.l := fun h => hx (step.1 (by rw [h]))
      have hx2 : ¬ (r1.l[j].1 = r2.l[j].1 ∧ r1.l[j].2 = r2.l[j].2) := fun h => hx (Prod.ext h.1 h.2)
      have hv : (!r1.l[j].1 == r2.l[j].1 || !r1.l[j].2 == r2.l[j].2) = true := by
        by_cases q1 : r1.l[j].1 = r2.l[j].1
        · have q2 : ¬ r1.l[j].2 = r2.l[j].2 := fun h => hx2 ⟨q1, h⟩
          simp [q2]
        · simp [q1]
      rw [hv]
      simp [hne] at hk
      simp
      exact hk
  · simp at hc
    have : j = r1.l.length := by omega
    subst this
    rw [List.take_length, e4, List.take_length] at htk
    simp [htk] at hk
    simp [*]
end Go.Proofs.Ytmchflhambfhkaa
