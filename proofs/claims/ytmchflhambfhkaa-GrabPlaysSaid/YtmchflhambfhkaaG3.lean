/-
  What Dismiss, Click and Popup do. Conditions: as each lemma states them.
-/
import Derived.Test.YtmchflhambfhkaaG2
namespace Go.Proofs.Ytmchflhambfhkaa
open Go Go.Ab Go.RowKit
set_option linter.unusedSimpArgs false
set_option linter.unusedVariables false
set_option linter.unnecessarySimpa false

attribute [local simp] condK_true condK_false condK_not wpc_skip wpc_ret wpc_exit wpc_seq wpc_reg wpc_regD testA_bool wpc_cond wpc_block thenA_normal thenA_ret thenA_exit blockA_normal blockA_ret blockA_exit blockA_other endA_normal endA_ret ev_tmp' ev_const ev_func ev_global cv_int cv_bool cv_string cv_pointer cv_slice cv_agg put_some put_none wH_s setE_apply less_eq env_cons env_nil upd_apply del_apply startA_eq cells_ag cells_sl one_sl cells_vs one_vs cells_ep one_ep cells_fn one_fn cells_int one_int cells_bool one_bool cells_string one_string cells_pointer one_pointer cells_slice one_slice cells_map one_map cells_agg resK_one resK_nil resK_two rvK_t rvK_c rvsK_nil rvsK_cons iseq_nil iseq_cons gdA_true gdA_false gdA_undef istep_free istep_guard istepV_free istepV_guard dseq_nil dseq_pu dseq_rd dseq_ef chkAll_nil chkAll_cons andK_true pickK_true pickK_false pickK_tb pickK_fb bin2K_pl eqbK_eq eqbK_ne eqpK_eq eqpK_ne un1K_pl convK_int fillK_some fillA_cons fillA_nil cellsK_some needK_true needK_ok seeK_ep seeK_ptr oneK_agg oneK_one nilcK_ptr nilcK_ep fadrK_ptr fadrK_ep fldK_ag iadAK_ptr iadAK_ep iadSK_sl iadSK_vs extK_0 extK_1 extK_2 extK_3 lenK_pl lenK_sl lenK_vs lensK_pl boxK_some minmax1K_int storeK_ptr callvK_fn callvK_pl newsK_nil newsK_vs newsK_sl appK_nil appK_nil0 appK_sl appK_vs bnd1K_int bndK_none bndK_some slsK_vs slsK_nil slsK_sl0 slsK_sl slstrK_pl boolK_some eqsK_ag iop_eqs iop_sls iop_slstr iop_mov iop_pick iop_bin iop_eqb iop_eqp iop_un iop_conv iop_build iop_load iop_nilc iop_fadr iop_fld iop_iadA iop_iadS iop_ext iop_mkf iop_len iop_lens iop_minmax iop_al iop_box iop_bsl iop_store iop_call iop_callv iop_app BIN_add BIN_sub BIN_mul BIN_and BIN_or BIN_xor BIN_andNot BIN_eql BIN_neq BIN_lss BIN_leq BIN_gtr BIN_geq BIN_quo BIN_rem BIN_shl BIN_shr BIN_sadd BIN_seql BIN_sneq BIN_slss BIN_sleq BIN_sgtr BIN_sgeq UN_neg UN_xor UN_not MM_nil MM_cons partsA argsA ptrA lessL eqL min2I
attribute [local simp] slotN_int slotP_int


theorem fnd_range (x : Int) : ∀ (l : List Int) (i : Nat), fnd x l i = -1 ∨ ((i : Int) ≤ fnd x l i ∧ fnd x l i < i + l.length)
  | [], i => .inl rfl
  | y :: l, i => by
    unfold fnd
    split
    · right; simp; omega
    · rcases fnd_range x l (i + 1) with h | h
      · exact .inl h
      · right; simp at h ⊢; omega

def PostL (H : AH) (F : Nat → Prop) (i : Nat) (r : M × List (Int × Int)) (K : AV → AH → Prop) : Prop :=
  ∀ H' F' a, St H' F' i r.1 → Stp F H F' H' → LRow H' r.2 a (fun k => ¬ F' k ∧ H k = none) → K a H'

def dismissM (m : M) (s : Int) : M × List (Int × Int) := if fnd s m.ch 0 < 0 then (m, []) else cutM m (fnd s m.ch 0).toNat
theorem c23 {H : AH} {F : Nat → Prop} {i : Nat} {m : M} (h : St H F i m) (hl : m.ch.length < 100) (s : Int) {K : AV → AH → Prop} (hk : PostL H F i (dismissM m s) K) : ACall Try.prog 23 [ptrA i, vi s] H K := by
  refine call_c follows cf23_ok (by simp) ?_
  simp
  refine c35 h ?_
  simp
  refine c36 h s hl ?_
  unfold dismissM at hk
  by_cases e : fnd s m.ch 0 < 0
  · simp [*] at hk ⊢
    exact hk _ F _ h (.refl _ _) (.inl ⟨rfl, rfl⟩)
  · rw [if_neg e] at hk
    simp [*]
    have e2 := fnd_range s m.ch 0
    have e3 : vi (fnd s m.ch 0) = vi ((fnd s m.ch 0).toNat : Nat) := by congr 2; omega
    rw [e3]
    refine c37 h hl _ (by omega) ?_
    simp
    exact hk

def clickM (m : M) (c s : Int) : M × List (Int × Int) := if m.ch = [] then (m, []) else if c ≠ m.owner then cutM m 0 else if fnd s m.ch 0 < 0 then (m, []) else cutM m (fnd s m.ch 0 + 1).toNat
theorem c22 {H : AH} {F : Nat → Prop} {i : Nat} {m : M} (h : St H F i m) (hl : m.ch.length < 100) (c s : Int) {K : AV → AH → Prop} (hk : PostL H F i (clickM m c s) K) : ACall Try.prog 22 [ptrA i, vi c, vi s] H K := by
  refine call_c follows cf22_ok (by simp) ?_
  simp
  refine c35 h ?_
  have h0 := h
  obtain ⟨a, h1, h2, h3, h4⟩ := h
  unfold clickM at hk
  simp [h1, cellsOf]
  refine h3.len ?_
  by_cases e : m.ch = []
  · rw [if_pos e] at hk
    simp [*]
    exact hk _ F _ h0 (.refl _ _) (.inl ⟨rfl, rfl⟩)
  have e0 : ¬ ((m.ch.length : Int) = 0) := by simpa using e
  rw [if_neg e] at hk
  by_cases e1 : c = m.owner
  · rw [if_neg (by simp [e1])] at hk
    simp [*, cellsOf]
    refine c36 h0 s hl ?_
    by_cases e : fnd s m.ch 0 < 0
    · rw [if_pos e] at hk
      simp [*]
      exact hk _ F _ h0 (.refl _ _) (.inl ⟨rfl, rfl⟩)
    · rw [if_neg e] at hk
      have e2 := fnd_range s m.ch 0
      simp (disch := omega) [*, IntWalk.i64_in]
      have e3 : AV.pl (.int .i64 (fnd s m.ch 0 + 1)) = vi ((fnd s m.ch 0 + 1).toNat : Nat) := by congr 2; omega
      rw [e3]
      refine c37 h0 hl _ (by omega) ?_
      simp
      exact hk
  · rw [if_pos e1] at hk
    simp [*, cellsOf]
    refine c37 h0 hl 0 (by omega) ?_
    simp
    exact hk

theorem popup_post {H H' : AH} {F : Nat → Prop} {i b : Nat} {m' : M} (h2 : F i) (g1 : H' i = some (.cells (cellsOf m' (.sl b 0 m'.ch.length 1 false)))) (g2 : H' b = some (.cells (m'.ch.map vi))) (g3 : b ≠ i)
    (g4 : ∀ j, ¬ F j → H j ≠ none → H' j = H j) (g5 : F b ∨ H b = none) : St H' (fun j => j = i ∨ j = b) i m' ∧ Stp F H (fun j => j = i ∨ j = b) H' := by
  refine ⟨⟨_, g1, .inl rfl, .inr ⟨b, false, [], rfl, by simpa using g2, .inr rfl, g3⟩, fun j hj => ?_⟩, fun j hj => ?_, g4⟩
  · rcases hj with rfl | rfl
    · rw [g1]; simp
    · rw [g2]; simp
  · rcases hj with rfl | rfl
    · exact .inl h2
    · exact g5

def popupM (m : M) (c s p : Int) : M × Int :=
  if c < 1 ∨ s < 1 ∨ p < 1 then (m, 6) else if 0 ≤ fnd s m.ch 0 then (m, 7) else if 8 ≤ m.ch.length then (m, 5) else
  if m.ch ≠ [] ∧ m.owner ≠ c then (m, 17) else if (m.ch ≠ [] ∧ m.ch.getD (m.ch.length - 1) 0 ≠ p) ∨ (m.ch = [] ∧ p = s) then (m, 16) else ({ m with owner := c, ch := m.ch ++ [s] }, 0)
theorem c21 {H : AH} {F : Nat → Prop} {i : Nat} {m : M} (h : St H F i m) (hl : m.ch.length < 100) (c s p : Int) {K : AV → AH → Prop} (hk : Post H F i (popupM m c s p).1 (K (vi (popupM m c s p).2))) :
    ACall Try.prog 21 [ptrA i, vi c, vi s, vi p] H K := by
  refine call_c follows cf21_ok (by simp) ?_
  simp
  refine c35 h ?_
  have h0 := h
  obtain ⟨a, h1, h2, h3, h4⟩ := h
  unfold popupM at hk
  simp [h1, cellsOf]
  refine h3.len ?_
  by_cases e1 : c < 1
  · simp [e1] at hk ⊢
    exact hk _ _ h0 (.refl _ _)
  by_cases e2 : s < 1
  · simp [e1, e2] at hk ⊢
    exact hk _ _ h0 (.refl _ _)
  by_cases e3 : p < 1
  · simp [e1, e2, e3] at hk ⊢
    exact hk _ _ h0 (.refl _ _)
  rw [if_neg (by omega)] at hk
  simp [e1, e2, e3]
  refine c36 h0 s hl ?_
  by_cases e4 : 0 ≤ fnd s m.ch 0
  · simp [e4] at hk ⊢
    exact hk _ _ h0 (.refl _ _)
  rw [if_neg e4] at hk
  by_cases e5 : 8 ≤ m.ch.length
  · have e5' : (8 : Int) ≤ m.ch.length := by omega
    simp [e4, e5, e5'] at hk ⊢
    exact hk _ _ h0 (.refl _ _)
  rw [if_neg e5] at hk
  have e5' : ¬ (8 : Int) ≤ m.ch.length := by omega
  have hi0 : H i ≠ none := by rw [h1]; simp
  by_cases e6 : m.ch = []
  · have e7 : ¬ (0 : Int) < m.ch.length := by simp [e6]
    have e7' : ((m.ch.length : Int) = 0) := by simp [e6]
    have e4' : ¬ 0 ≤ fnd s [] 0 := by simp [fnd]
    rw [if_neg (by simp [e6])] at hk
    by_cases e8 : p = s
    · rw [if_pos (.inr ⟨e6, e8⟩)] at hk
      simp [*]
      exact hk _ _ h0 (.refl _ _)
    · rw [if_neg (by simp [e6, e8])] at hk
      rcases h3 with ⟨_, rfl⟩ | ⟨b, x, rest, rfl, hb, hFb, hbi⟩
      rotate_left
      · simp (disch := omega) [*, cellsOf, cell_of, IntWalk.i64_in]
        refine newK_of fun b1 hb1 => ?_
        obtain ⟨n1, hb1⟩ := upd_none.1 hb1
        have n2 : b ≠ b1 := by rintro rfl; rw [hb1] at hb; cases hb
        simp (disch := omega) [*, Ne.symm n1]
        refine ownK_of fun b2 hb2 => ?_
        have n3 : b2 ≠ i := by
          rcases hb2 with rfl | hb2
          · exact hbi
          · obtain ⟨_, hb2⟩ := upd_none.1 hb2
            exact (upd_none.1 hb2).1
        have n4 : F b2 ∨ H b2 = none := by
          rcases hb2 with rfl | hb2
          · exact .inl hFb
          · obtain ⟨_, hb2⟩ := upd_none.1 hb2
            exact .inr (upd_none.1 hb2).2
        simp [*, Ne.symm n1, Ne.symm n3, Ne.symm hbi]
        refine (fun h => hk _ _ h.1 h.2) (popup_post (b := b2) h2 ?_ ?_ n3 ?_ n4)
        · simp [cellsOf, e6]
        · simp [n3, e6]
        · intro j hj hn
          have n5 : j ≠ i := by rintro rfl; exact hj h2
          have n6 : j ≠ b1 := by rintro rfl; exact hn hb1
          have n7 : j ≠ b2 := by rintro rfl; exact n4.elim hj hn
          have n8 : j ≠ b := by rintro rfl; exact hj hFb
          simp [*]
      simp [*, cellsOf]
      refine newK_of fun b1 hb1 => ?_
      obtain ⟨n1, hb1⟩ := upd_none.1 hb1
      simp [*]
      refine newK_of fun b2 hb2 => ?_
      obtain ⟨n2, hb2⟩ := upd_none.1 hb2
      obtain ⟨n3, hb2⟩ := upd_none.1 hb2
      simp [*, Ne.symm n1, Ne.symm n2, Ne.symm n3]
      refine (fun h => hk _ _ h.1 h.2) (popup_post (b := b2) h2 ?_ ?_ n3 ?_ (.inr hb2))
      · simp [cellsOf, e6]
      · simp [n3, e6]
      · intro j hj hn
        have n4 : j ≠ i := by rintro rfl; exact hj h2
        have n5 : j ≠ b1 := by rintro rfl; exact hn hb1
        have n6 : j ≠ b2 := by rintro rfl; exact hn hb2
        simp [*]
  · have e6' := List.length_pos_iff.2 e6
    have e7 : (0 : Int) < m.ch.length := by omega
    have e7' : ¬ ((m.ch.length : Int) = 0) := by omega
    by_cases e8 : m.owner = c
    · rw [if_neg (by simp [e8])] at hk
      have hFb : ∀ b n x, a = .sl b 0 n 1 x → F b ∧ b ≠ i := by
        rintro b n x rfl
        rcases h3 with ⟨_, e⟩ | ⟨b', _, _, e, _, e'⟩
        · cases e
        · cases e; exact e'
      obtain ⟨b, x, rest, rfl, hb⟩ := h3.at e6'
      obtain ⟨hFb, hbi⟩ := hFb _ _ _ rfl
      have e9 : ((m.ch.length : Int) - 1).toNat = m.ch.length - 1 := by omega
      have e10 : m.ch.getD (m.ch.length - 1) 0 = m.ch[m.ch.length - 1] := by rw [List.getD_eq_getElem?_getD, List.getElem?_eq_getElem (show m.ch.length - 1 < m.ch.length by omega)]; rfl
      rw [e10] at hk
      by_cases e11 : m.ch[m.ch.length - 1] = p
      · rw [if_neg (by simp [e6, e11])] at hk
        simp (disch := omega) [*, cellsOf, cell_of, IntWalk.i64_in]
        refine newK_of fun b1 hb1 => ?_
        obtain ⟨n1, hb1⟩ := upd_none.1 hb1
        have n2 : b ≠ b1 := by rintro rfl; rw [hb1] at hb; cases hb
        simp (disch := omega) [*, Ne.symm n1]
        refine ownK_of fun b2 hb2 => ?_
        have n3 : b2 ≠ i := by
          rcases hb2 with rfl | hb2
          · exact hbi
          · obtain ⟨_, hb2⟩ := upd_none.1 hb2
            exact (upd_none.1 hb2).1
        have n4 : F b2 ∨ H b2 = none := by
          rcases hb2 with rfl | hb2
          · exact .inl hFb
          · obtain ⟨_, hb2⟩ := upd_none.1 hb2
            exact .inr (upd_none.1 hb2).2
        simp [*, Ne.symm n1, Ne.symm n3, Ne.symm hbi]
        refine (fun h => hk _ _ h.1 h.2) (popup_post (b := b2) h2 ?_ ?_ n3 ?_ n4)
        · simp [cellsOf]
        · simp [n3]
        · intro j hj hn
          have n5 : j ≠ i := by rintro rfl; exact hj h2
          have n6 : j ≠ b1 := by rintro rfl; exact hn hb1
          have n7 : j ≠ b2 := by rintro rfl; exact n4.elim hj hn
          have n8 : j ≠ b := by rintro rfl; exact hj hFb
          simp [*]
      · rw [if_pos (.inl ⟨e6, e11⟩)] at hk
        simp (disch := omega) [*, cellsOf, cell_of, IntWalk.i64_in]
        exact hk _ _ h0 (.refl _ _)
    · rw [if_pos ⟨e6, e8⟩] at hk
      simp [*, cellsOf]
      exact hk _ _ h0 (.refl _ _)
end Go.Proofs.Ytmchflhambfhkaa
