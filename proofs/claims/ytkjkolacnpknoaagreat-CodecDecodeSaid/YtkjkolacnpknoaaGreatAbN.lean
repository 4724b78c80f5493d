/-
  Rows in boxes: a row that grows, of which a box holds the slice.
-/
import Derived.Test.YtkjkolacnpknoaaGreatAbM
namespace Go.Ab
open Go.RowKit
set_option linter.unusedVariables false
set_option linter.unusedSimpArgs false

/-- The row alone, on the view that was ahead of the helpers. -/
theorem Row.out {H B Hs : AH} {out : AV} {cs : List AV} {n sz : Nat} (h : Row B Hs out cs n sz) (hs : Sub H B) : ∃ H1, Sub H1 Hs ∧ Row H H1 out cs n sz := by
  rcases h with ⟨h1, h2, h3, rfl⟩ | ⟨q, rfl, hq, rfl⟩
  · exact ⟨H, hs, .inl ⟨h1, h2, h3, rfl⟩⟩
  · exact ⟨_, hs.cong, .mk (hs.none_of hq)⟩
theorem Row.out2 {H B Hs : AH} {y : Nat} {out : AV} {cs : List AV} {n sz : Nat} (h : Row B Hs out cs n sz) (hs : Sub H B) (hy : H y = none) {o : AO} (hB : B y = some o) (X : AO) : ∃ H1, Sub H1 (upd Hs y X) ∧ Row H H1 out cs n sz := by
  rcases h with ⟨h1, h2, h3, rfl⟩ | ⟨q, rfl, hq, rfl⟩
  · exact ⟨H, hs.upd hy, .inl ⟨h1, h2, h3, rfl⟩⟩
  · have hne : y ≠ q := by rintro rfl; rw [hq] at hB; cases hB
    refine ⟨_, (hs.cong).upd ?_, .mk (hs.none_of hq)⟩
    simp only [upd_apply, if_neg hne]; exact hy
/-- What the box of a row becomes, once the row is longer. -/
theorem sub_turn {B H' : AH} {z q : Nat} {X C : AO} (hq : (upd B z X) q = none) (hs : Sub (upd (upd B z X) q C) H') (X' : AO) : H' z = some X ∧ (upd B z X') q = none ∧ Sub (upd (upd B z X') q C) (upd H' z X') ∧ B q = none ∧ q ≠ z ∧ z ≠ q := by
  obtain ⟨n1, n2, hB⟩ := upd_none'.1 hq
  refine ⟨hs z X (by simp [upd_apply, n2]), by simp [upd_apply, n1, hB], fun j o hj => ?_, hB, n1, n2⟩
  simp only [upd_apply] at hj ⊢
  by_cases e : j = z
  · subst e; simpa [n2] using hj
  · rw [if_neg e]
    refine hs j o ?_
    simp only [upd_apply]
    by_cases e2 : j = q
    · subst e2; simpa using hj
    · simpa [e, e2] using hj
theorem Sub.at {H H' : AH} {b : Nat} {o : AO} (h : Sub H H') (hb : H b = some o) : H' b = some o := h b o hb
theorem flat_at {E : Type} {enc : E → List AV} {k : Nat} (he : ∀ x, (enc x).length = k) {l : List E} {i : Nat} (h : i < l.length) : ∃ rest, (flat enc l).drop (i * k) = enc l[i] ++ rest := ⟨_, flat_drop he l i h⟩
theorem Row.one {H0 H : AH} {out : AV} {cs : List AV} {n sz : Nat} (h : Row H0 H out cs n sz) : out.one = true := by
  rcases h with ⟨_, _, rfl, _⟩ | ⟨_, rfl, _⟩ <;> rfl
theorem RowIn.one {H : AH} {out : AV} {cs : List AV} {n sz : Nat} (h : RowIn H out cs n sz) : out.one = true := by
  rcases h with ⟨_, ⟨_, rfl⟩ | ⟨_, _, rfl, _⟩⟩ <;> rfl
theorem flat_snoc {E : Type} {enc : E → List AV} (l : List E) (e : E) : flat enc l ++ enc e = flat enc (l ++ [e]) := by simp [flat]

/-! ### Maps with strings as keys -/
theorem bytes_ext {a b : ByteArray} (h : a.toList = b.toList) : a = b := by
  rw [ByteArray.toList_eq, ByteArray.toList_eq] at h
  exact ByteArray.ext (Array.toList_inj.1 h)
theorem bytes_beq (a b : ByteArray) : (a.toList == b.toList) = decide (a = b) := by
  by_cases h : a = b
  · subst h; simp
  · have : ¬ a.toList = b.toList := fun e => h (bytes_ext e)
    simp [h, this]
section
variable {E : Type} {key : E → ByteArray} {val : E → AV}
def mS (key : E → ByteArray) (val : E → AV) (m : List E) : List (Value × AV) := m.map fun e => (.string (key e), val e)
theorem mS_len (m : List E) : (mS key val m).length = m.length := by simp [mS]
theorem splitS (key : E → ByteArray) (s : ByteArray) : ∀ (m : List E), (∀ e ∈ m, key e ≠ s) ∨ ∃ m1 e m2, m = m1 ++ e :: m2 ∧ (∀ x ∈ m1, key x ≠ s) ∧ key e = s
  | [] => .inl fun _ h => by cases h
  | e :: m => by
    by_cases h : key e = s
    · exact .inr ⟨[], e, m, rfl, (fun _ h => by cases h), h⟩
    · rcases splitS key s m with h1 | ⟨m1, x, m2, rfl, h1, h2⟩
      · exact .inl fun x hx => by
          rcases List.mem_cons.1 hx with rfl | hx
          · exact h
          · exact h1 x hx
      · refine .inr ⟨e :: m1, x, m2, rfl, fun y hy => ?_, h2⟩
        rcases List.mem_cons.1 hy with rfl | hy
        · exact h
        · exact h1 y hy
theorem sfind_none {s : ByteArray} : ∀ (m : List E) (i : Nat), (∀ e ∈ m, key e ≠ s) → mfind 2 (.string s) (mS key val m) i = some none
  | [], _, _ => rfl
  | e :: m, i, h => by
    have h1 : (s.toList == (key e).toList) = false := by rw [bytes_beq]; simpa using Ne.symm (h e (by simp))
    simp only [mS, List.map_cons, mfind, sameK, if_true, h1]
    exact sfind_none m (i + 1) fun x hx => h x (by simp [hx])
theorem sfind_some {s : ByteArray} {e : E} {m2 : List E} : ∀ (m1 : List E) (i : Nat), (∀ x ∈ m1, key x ≠ s) → key e = s → mfind 2 (.string s) (mS key val (m1 ++ e :: m2)) i = some (some (i + m1.length, val e))
  | [], i, _, he => by simp [mS, mfind, sameK, he]
  | x :: m1, i, h, he => by
    have h1 : (s.toList == (key x).toList) = false := by rw [bytes_beq]; simpa using Ne.symm (h x (by simp))
    have ih := sfind_some (m2 := m2) (e := e) m1 (i + 1) (fun y hy => h y (by simp [hy])) he
    simp only [mS, List.map_cons, List.cons_append, mfind, sameK, if_true, h1]
    rw [show i + (x :: m1).length = i + 1 + m1.length by simp; omega]
    exact ih
theorem mS_set {m1 m2 : List E} {e : E} (x : E) : (mS key val (m1 ++ e :: m2)).set m1.length (.string (key x), val x) = mS key val (m1 ++ x :: m2) := by
  simp [mS]
theorem mS_push {m : List E} (x : E) : mS key val m ++ [(.string (key x), val x)] = mS key val (m ++ [x]) := by simp [mS]
theorem mS_erase {m1 m2 : List E} {e : E} : (mS key val (m1 ++ e :: m2)).eraseIdx m1.length = mS key val (m1 ++ m2) := by
  simp only [mS, List.map_append, List.map_cons]
  rw [List.eraseIdx_append_of_length_le (by simp)]
  simp
end
/-- Names in order. -/
def srtL (l : List (List UInt8)) : List (List UInt8) := l.mergeSort fun x y => decide (x ≤ y)
theorem srtL_perm {a b : List (List UInt8)} (h : a.Perm b) : srtL a = srtL b := by
  have hp : (srtL a).Perm (srtL b) := (List.mergeSort_perm _ _).trans (h.trans (List.mergeSort_perm _ _).symm)
  have so : ∀ l : List (List UInt8), (srtL l).Pairwise fun x y => x ≤ y := fun l => by
    have := List.pairwise_mergeSort (le := fun x y : List UInt8 => decide (x ≤ y)) (fun a b c h1 h2 => by simp at *; exact List.le_trans h1 h2) (fun a b => by simpa using List.le_total a b) l
    exact this.imp fun h => by simpa using h
  exact hp.eq_of_pairwise (fun a b _ _ h1 h2 => List.le_antisymm h1 h2) (so a) (so b)
def toB (l : List UInt8) : ByteArray := ⟨l.toArray⟩
theorem toB_toList (b : ByteArray) : toB b.toList = b := by
  rw [ByteArray.toList_eq]; rfl
end Go.Ab
