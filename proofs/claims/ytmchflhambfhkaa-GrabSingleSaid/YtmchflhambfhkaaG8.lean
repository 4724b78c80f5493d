/-
  GrabSingle: what the law does at every list of calls. Conditions: the list reads as a list of calls.
-/
import Derived.Test.YtmchflhambfhkaaG7
namespace Go.Proofs.Ytmchflhambfhkaa
open Go Go.Ab Go.RowKit
set_option linter.unusedSimpArgs false
set_option linter.unusedVariables false
set_option linter.unnecessarySimpa false

attribute [local simp] condK_true condK_false condK_not wpc_skip wpc_ret wpc_exit wpc_seq wpc_reg wpc_regD testA_bool wpc_cond wpc_block thenA_normal thenA_ret thenA_exit blockA_normal blockA_ret blockA_exit blockA_other endA_normal endA_ret ev_tmp' ev_const ev_func ev_global cv_int cv_bool cv_string cv_pointer cv_slice cv_agg put_some put_none wH_s setE_apply less_eq env_cons env_nil upd_apply del_apply startA_eq cells_ag cells_sl one_sl cells_vs one_vs cells_ep one_ep cells_fn one_fn cells_int one_int cells_bool one_bool cells_string one_string cells_pointer one_pointer cells_slice one_slice cells_map one_map cells_agg resK_one resK_nil resK_two rvK_t rvK_c rvsK_nil rvsK_cons iseq_nil iseq_cons gdA_true gdA_false gdA_undef istep_free istep_guard istepV_free istepV_guard dseq_nil dseq_pu dseq_rd dseq_ef chkAll_nil chkAll_cons andK_true pickK_true pickK_false pickK_tb pickK_fb bin2K_pl eqbK_eq eqbK_ne eqpK_eq eqpK_ne un1K_pl convK_int fillK_some fillA_cons fillA_nil cellsK_some needK_true needK_ok seeK_ep seeK_ptr oneK_agg oneK_one nilcK_ptr nilcK_ep fadrK_ptr fadrK_ep fldK_ag iadAK_ptr iadAK_ep iadSK_sl iadSK_vs extK_0 extK_1 extK_2 extK_3 lenK_pl lenK_sl lenK_vs lensK_pl boxK_some minmax1K_int storeK_ptr callvK_fn callvK_pl newsK_nil newsK_vs newsK_sl appK_nil appK_nil0 appK_sl appK_vs bnd1K_int bndK_none bndK_some slsK_vs slsK_nil slsK_sl0 slsK_sl slstrK_pl boolK_some eqsK_ag iop_eqs iop_sls iop_slstr iop_mov iop_pick iop_bin iop_eqb iop_eqp iop_un iop_conv iop_build iop_load iop_nilc iop_fadr iop_fld iop_iadA iop_iadS iop_ext iop_mkf iop_len iop_lens iop_minmax iop_al iop_box iop_bsl iop_store iop_call iop_callv iop_app BIN_add BIN_sub BIN_mul BIN_and BIN_or BIN_xor BIN_andNot BIN_eql BIN_neq BIN_lss BIN_leq BIN_gtr BIN_geq BIN_quo BIN_rem BIN_shl BIN_shr BIN_sadd BIN_seql BIN_sneq BIN_slss BIN_sleq BIN_sgtr BIN_sgeq UN_neg UN_xor UN_not MM_nil MM_cons partsA argsA ptrA lessL eqL min2I
attribute [local simp] slotN_int slotP_int


theorem rel2 (m : M) : (releaseM (releaseM m).1).2.2 = false := by
  unfold releaseM
  by_cases h : m.b0 = 0 <;> simp [h]
theorem rel_d (m : M) : (releaseM m).1.d0 = m.d0 := by
  unfold releaseM
  split <;> rfl
theorem end2 (m : M) : (endM (endM m).1).2 = false := by
  unfold endM
  by_cases h : m.d0 = 0 <;> simp [h]
theorem end_ok (m : M) (h : m.d0 ≠ 0) : (endM m).2 = true := by simp [endM, h]

theorem single_facts {m m1 m2 : M} {c s e f : Int} (hI : Inv m) (he : implM m c s = (m1, e)) (hf : dragM m1 c s = (m2, f)) :
    (e = 6 ↔ (c < 1 ∨ s < 1)) ∧ (e = 0 → (releaseM m2).2 = (s, true)) ∧ (f = 0 → m2.d0 ≠ 0) ∧ (1 ≤ c → 1 ≤ s → m2.b0 ≠ 0 ∧ m2.d0 ≠ 0) := by
  unfold implM at he
  unfold dragM at hf
  by_cases h1 : c < 1 ∨ s < 1
  · rw [if_pos h1] at he
    cases he
    refine ⟨by simp [h1], by simp, ?_, by omega⟩
    intro h
    split at hf
    · cases hf; simp at h
    · split at hf
      · cases hf; simp at h
      · cases hf; simp; omega
  · rw [if_neg h1] at he
    split at he
    · cases he
      rename_i hb
      split at hf
      · omega
      · split at hf
        · cases hf
          rename_i hd
          refine ⟨by simp; omega, by simp, by simp, fun _ _ => ⟨hb, hd⟩⟩
        · cases hf
          refine ⟨by simp; omega, by simp, fun _ => by simp; omega, fun _ _ => ⟨hb, by simp; omega⟩⟩
    · cases he
      split at hf
      · omega
      · split at hf
        · cases hf
          rename_i hd
          have : c ≠ 0 := by omega
          refine ⟨by simp; omega, by simp [releaseM, this], by simp, fun _ _ => ⟨this, hd⟩⟩
        · cases hf
          have : c ≠ 0 := by omega
          refine ⟨by simp; omega, by simp [releaseM, this], fun _ => this, fun _ _ => ⟨this, this⟩⟩

theorem grabSingle {n : Nat} {cs : List AV} (c s : Int) (hcs : n ≤ 100 → ∃ l : List Opn, l.length = n ∧ cs = opcs l) (hn : n ≤ maxLen) {K : AV → AH → Prop} (hk : ∀ H', K (vb true) H') :
    ACall Try.prog 8 [.vs n false cs, vi c, vi s] (fun _ => none) K := by
  refine call_c follows cf8_ok (by simp) ?_
  simp
  by_cases h0 : (100 : Int) < n
  · simp [h0]
    refine c10 fun H' _ => ?_
    simp
    exact hk _
  obtain ⟨l, rfl, rfl⟩ := hcs (by omega)
  simp [h0]
  refine c20 l (by omega) fun i H1 F1 h1 _ => ?_
  simp
  have hI : Inv (runM m0 l) := Inv.run l Inv.zero
  generalize runM m0 l = m at *
  obtain ⟨m1, e, he⟩ : ∃ m1 e, implM m c s = (m1, e) := ⟨_, _, rfl⟩
  obtain ⟨m2, f, hf⟩ : ∃ m2 f, dragM m1 c s = (m2, f) := ⟨_, _, rfl⟩
  obtain ⟨f1, f2, f3, f4⟩ := single_facts hI he hf
  have r2 := rel2 m2
  refine c26 h1 c s fun H2 F2 h2 _ => ?_
  rw [he] at h2 ⊢
  simp
  refine c27 h2 c s fun H3 F3 h3 _ => ?_
  rw [hf] at h3 ⊢
  simp
  have fin : ∀ (H3 : AH) (F3 : Nat → Prop), St H3 F3 i m2 → True := fun _ _ _ => trivial
  by_cases hc : 1 ≤ c
  · by_cases hs : 1 ≤ s
    · obtain ⟨q1, q2⟩ := f4 hc hs
      have q3 : ¬ c < 1 := by omega
      have q4 : ¬ s < 1 := by omega
      have q5 : e ≠ 6 := fun h => by have := f1.1 h; omega
      have q6 : implM m2 c s = (m2, 14) := by simp [implM, q1, q3, q4]
      have q7 : dragM m2 c s = (m2, 14) := by simp [dragM, q2, q3]; omega
      simp [hc, hs]
      refine c26 h3 c s fun H4 F4 h4 _ => ?_
      rw [q6] at h4 ⊢
      simp
      refine c27 h4 c s fun H5 F5 h5 _ => ?_
      rw [q7] at h5 ⊢
      simp
      refine c25 h5 fun H6 F6 h6 _ => ?_
      simp
      refine c25 h6 fun H7 F7 h7 _ => ?_
      by_cases he0 : e = 0
      · have q8 := f2 he0
        simp [r2, q3, q4, q5, he0, q8]
        refine c24 h7 fun H8 F8 h8 _ => ?_
        by_cases hf0 : f = 0
        · have q9 := end_ok (releaseM (releaseM m2).1).1 (by rw [rel_d, rel_d]; exact f3 hf0)
          simp [hf0, q9]
          refine c24 h8 fun H9 F9 h9 _ => ?_
          simp [end2]
          refine c10 fun H' _ => ?_
          simp
          exact hk _
        · simp [hf0]
          refine c24 h8 fun H9 F9 h9 _ => ?_
          simp [end2]
          refine c10 fun H' _ => ?_
          simp
          exact hk _
      · simp [r2, q3, q4, q5, he0]
        refine c24 h7 fun H8 F8 h8 _ => ?_
        by_cases hf0 : f = 0
        · have q9 := end_ok (releaseM (releaseM m2).1).1 (by rw [rel_d, rel_d]; exact f3 hf0)
          simp [hf0, q9]
          refine c24 h8 fun H9 F9 h9 _ => ?_
          simp [end2]
          refine c10 fun H' _ => ?_
          simp
          exact hk _
        · simp [hf0]
          refine c24 h8 fun H9 F9 h9 _ => ?_
          simp [end2]
          refine c10 fun H' _ => ?_
          simp
          exact hk _
    · have q4 : s < 1 := by omega
      have q3 : ¬ c < 1 := by omega
      have q5 : e = 6 := f1.2 (.inr q4)
      simp [hc, hs]
      refine c25 h3 fun H6 F6 h6 _ => ?_
      simp
      refine c25 h6 fun H7 F7 h7 _ => ?_
      simp [r2, q3, q4, q5]
      refine c24 h7 fun H8 F8 h8 _ => ?_
      by_cases hf0 : f = 0
      · have q9 := end_ok (releaseM (releaseM m2).1).1 (by rw [rel_d, rel_d]; exact f3 hf0)
        simp [hf0, q9]
        refine c24 h8 fun H9 F9 h9 _ => ?_
        simp [end2]
        refine c10 fun H' _ => ?_
        simp
        exact hk _
      · simp [hf0]
        refine c24 h8 fun H9 F9 h9 _ => ?_
        simp [end2]
        refine c10 fun H' _ => ?_
        simp
        exact hk _
  · have q3 : c < 1 := by omega
    have q5 : e = 6 := f1.2 (.inl q3)
    simp [hc]
    refine c25 h3 fun H6 F6 h6 _ => ?_
    simp
    refine c25 h6 fun H7 F7 h7 _ => ?_
    simp [r2, q3, q5]
    refine c24 h7 fun H8 F8 h8 _ => ?_
    by_cases hf0 : f = 0
    · have q9 := end_ok (releaseM (releaseM m2).1).1 (by rw [rel_d, rel_d]; exact f3 hf0)
      simp [hf0, q9]
      refine c24 h8 fun H9 F9 h9 _ => ?_
      simp [end2]
      refine c10 fun H' _ => ?_
      simp
      exact hk _
    · simp [hf0]
      refine c24 h8 fun H9 F9 h9 _ => ?_
      simp [end2]
      refine c10 fun H' _ => ?_
      simp
      exact hk _
end Go.Proofs.Ytmchflhambfhkaa
