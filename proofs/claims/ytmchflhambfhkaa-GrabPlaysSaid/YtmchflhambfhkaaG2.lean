/-
  What cutting the chain of popups does: the rest of the chain, and the deliveries. Conditions: as the lemma states them.
-/
import Derived.Test.YtmchflhambfhkaaG1
namespace Go.Proofs.Ytmchflhambfhkaa
open Go Go.Ab Go.RowKit
set_option linter.unusedSimpArgs false
set_option linter.unusedVariables false
set_option linter.unnecessarySimpa false

attribute [local simp] condK_true condK_false condK_not wpc_skip wpc_ret wpc_exit wpc_seq wpc_reg wpc_regD testA_bool wpc_cond wpc_block thenA_normal thenA_ret thenA_exit blockA_normal blockA_ret blockA_exit blockA_other endA_normal endA_ret ev_tmp' ev_const ev_func ev_global cv_int cv_bool cv_string cv_pointer cv_slice cv_agg put_some put_none wH_s setE_apply less_eq env_cons env_nil upd_apply del_apply startA_eq cells_ag cells_sl one_sl cells_vs one_vs cells_ep one_ep cells_fn one_fn cells_int one_int cells_bool one_bool cells_string one_string cells_pointer one_pointer cells_slice one_slice cells_map one_map cells_agg resK_one resK_nil resK_two rvK_t rvK_c rvsK_nil rvsK_cons iseq_nil iseq_cons gdA_true gdA_false gdA_undef istep_free istep_guard istepV_free istepV_guard dseq_nil dseq_pu dseq_rd dseq_ef chkAll_nil chkAll_cons andK_true pickK_true pickK_false pickK_tb pickK_fb bin2K_pl eqbK_eq eqbK_ne eqpK_eq eqpK_ne un1K_pl convK_int fillK_some fillA_cons fillA_nil cellsK_some needK_true needK_ok seeK_ep seeK_ptr oneK_agg oneK_one nilcK_ptr nilcK_ep fadrK_ptr fadrK_ep fldK_ag iadAK_ptr iadAK_ep iadSK_sl iadSK_vs extK_0 extK_1 extK_2 extK_3 lenK_pl lenK_sl lenK_vs lensK_pl boxK_some minmax1K_int storeK_ptr callvK_fn callvK_pl newsK_nil newsK_vs newsK_sl appK_nil appK_nil0 appK_sl appK_vs bnd1K_int bndK_none bndK_some slsK_vs slsK_nil slsK_sl0 slsK_sl slstrK_pl boolK_some eqsK_ag iop_eqs iop_sls iop_slstr iop_mov iop_pick iop_bin iop_eqb iop_eqp iop_un iop_conv iop_build iop_load iop_nilc iop_fadr iop_fld iop_iadA iop_iadS iop_ext iop_mkf iop_len iop_lens iop_minmax iop_al iop_box iop_bsl iop_store iop_call iop_callv iop_app BIN_add BIN_sub BIN_mul BIN_and BIN_or BIN_xor BIN_andNot BIN_eql BIN_neq BIN_lss BIN_leq BIN_gtr BIN_geq BIN_quo BIN_rem BIN_shl BIN_shr BIN_sadd BIN_seql BIN_sneq BIN_slss BIN_sleq BIN_sgtr BIN_sgeq UN_neg UN_xor UN_not MM_nil MM_cons partsA argsA ptrA lessL eqL min2I
attribute [local simp] slotN_int

def slotP (a : AV) : Nat := match a with
  | .pl (.int _ n) => (n + 1).toNat
  | _ => 0
theorem slotP_int {k : IntKind} {n : Int} : slotP (.pl (.int k n)) = (n + 1).toNat := rfl
attribute [local simp] slotP_int

/-! ### Rows of deliveries -/
def dcell (p : Int × Int) : List AV := [vi p.1, vi p.2, vi 21, vi 0, vi 0, vi 0, vi 0, vi 0, .pl (.int .u32 0)]
def LRow (H : AH) (l : List (Int × Int)) (a : AV) (G : Nat → Prop) : Prop :=
  (l = [] ∧ a = .pl (.slice none 0 0)) ∨ ∃ r x, a = .sl r 0 l.length 9 x ∧ H r = some (.cells (l.flatMap dcell)) ∧ G r
theorem dcell_len (l : List (Int × Int)) : (l.flatMap dcell).length = l.length * 9 := by
  induction l with
  | nil => rfl
  | cons p l ih => simp [List.flatMap_cons, ih, dcell]; omega

def cutM (m : M) (k : Nat) : M × List (Int × Int) := ({ m with ch := m.ch.take k }, (m.ch.drop k).reverse.map fun x => (m.owner, x))

theorem c37 {H : AH} {F : Nat → Prop} {i : Nat} {m : M} (h : St H F i m) (hl : m.ch.length < 100) (k : Nat) (hk0 : k ≤ m.ch.length) {K : AV → AH → Prop}
    (hk : ∀ H' F' a, St H' F' i (cutM m k).1 → Stp F H F' H' → LRow H' (cutM m k).2 a (fun r => ¬ F' r ∧ H r = none) → K a H') :
    ACall Try.prog 37 [ptrA i, vi k] H K := by
  refine call_c follows cf37_ok (by simp) ?_
  have h0 := h
  obtain ⟨a, h1, h2, h3, h4⟩ := h
  simp [h1, cellsOf]
  refine h3.len ?_
  simp (disch := omega) [IntWalk.i64_in]
  refine wpc_loop (fun s => ∃ (p : Nat) (out : AV) (Hs : AH), s.n = 44 ∧ s.H = Hs ∧ s.t 0 = ptrA i ∧ s.t 1 = vi k ∧ s.t 5 = out ∧ s.t 6 = vi ((p : Int) - 1) ∧ k ≤ p ∧ p ≤ m.ch.length ∧
      (∀ j, H j ≠ none → Hs j = H j) ∧ LRow Hs ((m.ch.drop p).reverse.map fun x => (m.owner, x)) out (fun r => H r = none))
    (fun s => slotP (s.t 6)) ?_ ?_
  · refine ⟨m.ch.length, .pl (.slice none 0 0), H, ?_⟩
    simp
    exact ⟨hk0, .inl ⟨rfl, rfl⟩⟩
  rintro s ⟨p, out, Hs, hn, hH, e0, e1, e5, e6, hp1, hp2, hH2, hout⟩
  have hsi : Hs i = some (AO.cells (cellsOf m a)) := by rw [hH2 i (by rw [h1]; simp), h1]
  simp [*]
  refine condK_of (fun hc => ?_) (fun hc => ?_)
  · simp at hc
    have hpl : p - 1 < m.ch.length := by omega
    obtain ⟨b, x, rest, rfl, hb⟩ := h3.at hpl
    have hsb : Hs b = some (AO.cells (m.ch.map vi ++ rest)) := by rw [hH2 b (by rw [hb]; simp), hb]
    have e7 : ((p : Int) - 1).toNat = p - 1 := by omega
    have e8 : (m.ch.drop (p - 1)).reverse.map (fun x => (m.owner, x)) = (m.ch.drop p).reverse.map (fun x => (m.owner, x)) ++ [(m.owner, m.ch[p - 1])] := by
      rw [List.drop_eq_getElem_cons hpl, show p - 1 + 1 = p by omega]
      simp
    have e9 : ((m.ch.drop p).reverse.map (fun x => (m.owner, x))).length < 100 := by simp; omega
    generalize hL : (m.ch.drop p).reverse.map (fun x => (m.owner, x)) = L at *
    have e10 := dcell_len L
    have inv : ∀ (s' : ASt) (o : AV) (H' : AH), s'.n = 44 → s'.H = H' → s'.t 0 = ptrA i → s'.t 1 = vi k → s'.t 5 = o → s'.t 6 = vi ((p : Int) - 1 - 1) → (∀ j, H j ≠ none → H' j = H j) →
        LRow H' (L ++ [(m.owner, m.ch[p - 1])]) o (fun r => H r = none) →
        (∃ (p : Nat) (out : AV) (Hs : AH), s'.n = 44 ∧ s'.H = Hs ∧ s'.t 0 = ptrA i ∧ s'.t 1 = vi k ∧ s'.t 5 = out ∧ s'.t 6 = vi ((p : Int) - 1) ∧ k ≤ p ∧ p ≤ m.ch.length ∧
      (∀ j, H j ≠ none → Hs j = H j) ∧ LRow Hs ((m.ch.drop p).reverse.map fun x => (m.owner, x)) out (fun r => H r = none)) ∧ slotP (s'.t 6) < slotP (s.t 6) := by
      intro s' o H' g1 g2 g3 g4 g5 g6 g7 g8
      refine ⟨⟨p - 1, o, H', g1, g2, g3, g4, g5, ?_, by omega, by omega, g7, ?_⟩, ?_⟩
      · rw [g6, show ((p - 1 : Nat) : Int) = (p : Int) - 1 by omega]
      · rw [e8]; exact g8
      · rw [g6, e6]; simp; omega
    simp (disch := omega) [*, cellsOf, cell_of]
    refine newK_of fun b1 hb1 => ?_
    have n1 : i ≠ b1 := by rintro rfl; rw [hsi] at hb1; cases hb1
    have n2 : b ≠ b1 := by rintro rfl; rw [hsb] at hb1; cases hb1
    have n3 : H b1 = none := by
      cases e : H b1 with
      | none => rfl
      | some o => rw [hH2 b1 (by rw [e]; simp), e] at hb1; cases hb1
    rcases hout with ⟨ho1, rfl⟩ | ⟨r, xx, rfl, ho2, ho3⟩
    · simp (disch := omega) [*, cellsOf, cell_of]
      refine newK_of fun b2 hb2 => ?_
      obtain ⟨n4, hb2⟩ := upd_none.1 hb2
      have n5 : i ≠ b2 := by rintro rfl; rw [hsi] at hb2; cases hb2
      have n6 : b ≠ b2 := by rintro rfl; rw [hsb] at hb2; cases hb2
      have n7 : H b2 = none := by
        cases e : H b2 with
        | none => rfl
        | some o => rw [hH2 b2 (by rw [e]; simp), e] at hb2; cases hb2
      simp (disch := omega) [*, cellsOf, cell_of, IntWalk.i64_in]
      refine ⟨Hid.of ?_, by omega⟩
      refine (inv _ (.sl b2 0 1 9 false) _ ?_ rfl ?_ ?_ ?_ ?_ ?_ ?_).1
      · rfl
      · simp
      · simp
      · simp
      · simp
      · intro j hj
        have n8 : j ≠ b1 := by rintro rfl; exact hj n3
        have n9 : j ≠ b2 := by rintro rfl; exact hj n7
        simp [n8, n9]
        exact hH2 j hj
      · refine .inr ⟨b2, false, ?_, ?_, n7⟩
        · simp [ho1]
        · simp [ho1, dcell]
    · have n4 : r ≠ b1 := by rintro rfl; rw [ho2] at hb1; cases hb1
      have n5 : i ≠ r := by rintro rfl; rw [ho3] at h1; cases h1
      have n6 : b ≠ r := by rintro rfl; rw [ho3] at hb; cases hb
      simp (disch := omega) [*, cellsOf, cell_of]
      refine ownK_of fun b2 hb2 => ?_
      have n7 : H b2 = none := by
        rcases hb2 with rfl | hb2
        · exact ho3
        · obtain ⟨_, hb2⟩ := upd_none.1 hb2
          cases e : H b2 with
          | none => rfl
          | some o => rw [hH2 b2 (by rw [e]; simp), e] at hb2; cases hb2
      have n8 : i ≠ b2 := by rintro rfl; rw [n7] at h1; cases h1
      have n9 : b ≠ b2 := by rintro rfl; rw [n7] at hb; cases hb
      simp (disch := omega) [*, cellsOf, cell_of, IntWalk.i64_in]
      refine ⟨Hid.of ?_, by omega⟩
      refine (inv _ (.sl b2 0 (L.length + 1) 9 false) _ ?_ rfl ?_ ?_ ?_ ?_ ?_ ?_).1
      · rfl
      · simp
      · simp
      · simp
      · simp
      · intro j hj
        have n10 : j ≠ b1 := by rintro rfl; exact hj n3
        have n11 : j ≠ b2 := by rintro rfl; exact hj n7
        have n12 : j ≠ r := by rintro rfl; exact hj ho3
        simp [n10, n11, n12]
        exact hH2 j hj
      · refine .inr ⟨b2, false, ?_, ?_, n7⟩
        · simp
        · simp [dcell]
          rw [List.take_of_length_le (by omega)]
  · simp at hc
    have : p = k := by omega
    subst this
    unfold cutM at hk
    have hout2 : LRow Hs ((m.ch.drop p).reverse.map fun x => (m.owner, x)) out (fun r => ¬ F r ∧ H r = none) := by
      rcases hout with h | ⟨r, x, g1, g2, g3⟩
      · exact .inl h
      · exact .inr ⟨r, x, g1, g2, fun hf => h4 r hf g3, g3⟩
    have hsF : ∀ j, F j → Hs j ≠ none := fun j hj => by rw [hH2 j (h4 j hj)]; exact h4 j hj
    have hlr : ∀ (o : AO), LRow (upd Hs i o) ((m.ch.drop p).reverse.map fun x => (m.owner, x)) out (fun r => ¬ F r ∧ H r = none) := by
      intro o
      rcases hout2 with h | ⟨r, x, g1, g2, g3⟩
      · exact .inl h
      · refine .inr ⟨r, x, g1, ?_, g3⟩
        simp only [upd_apply]
        rw [if_neg (by rintro rfl; exact g3.1 h2), g2]
    have hst : ∀ (o : AO), Stp F H F (upd Hs i o) := fun o => ⟨fun j hj => .inl hj, fun j hj hn => by
      simp only [upd_apply]
      rw [if_neg (by rintro rfl; exact hj h2), hH2 j hn]⟩
    rcases h3 with ⟨g1, rfl⟩ | ⟨b, x, rest, rfl, g2, g3⟩
    · have : p = 0 := by rw [g1] at hk0; simpa using hk0
      subst this
      simp [*, cellsOf]
      refine hk _ F _ ⟨.pl (.slice none 0 0), by simp [cellsOf], h2, .inl ⟨by simp, rfl⟩, fun j hj => ?_⟩ (hst _) ?_
      · simp only [upd_apply]; split
        · simp
        · exact hsF j hj
      · have := hlr
        simpa [*] using this _
    · have hsb : Hs b = some (AO.cells (m.ch.map vi ++ rest)) := by rw [hH2 b (by rw [g2]; simp), g2]
      simp (disch := omega) [*, cellsOf]
      refine hk _ F _ ⟨.sl b 0 p 1 true, by simp [cellsOf], h2, .inr ⟨b, true, (m.ch.drop p).map vi ++ rest, ?_, ?_, g3⟩, fun j hj => ?_⟩ (hst _) (hlr _)
      · simp; omega
      · simp [g3.2, hsb]
        rw [← List.append_assoc, List.take_append_drop]
      · simp only [upd_apply]; split
        · simp
        · exact hsF j hj
end Go.Proofs.Ytmchflhambfhkaa
