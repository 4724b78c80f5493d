/-
  Rows in boxes: a row that grows, of which a box holds the slice.
-/
import Derived.Test.YtnlckmkjhpaloaaAbM
namespace Go.Ab
open Go.RowKit
set_option linter.unusedVariables false
set_option linter.unusedSimpArgs false

/-- The row alone, on the view that was ahead of the helpers. -/
theorem Row.out {H B Hs : AH} {out : AV} {cs : List AV} {n sz : Nat} (h : Row B Hs out cs n sz) (hs : Sub H B) : ∃ H1, Sub H1 Hs ∧ Row H H1 out cs n sz := by
  rcases h with ⟨h1, h2, h3, rfl⟩ | ⟨q, rfl, hq, rfl⟩
  · exact ⟨H, hs, .inl ⟨h1, h2, h3, rfl⟩⟩
  · exact ⟨_, hs.cong, .mk (hs.none_of hq)⟩
theorem Row.out2 {H B Hs : AH} {y : Nat} {out : AV} {cs : List AV} {n sz : Nat} (h : Row B Hs out cs n sz) (hs : Sub H B) (hy : H y = none) {o : AO} (hB : B y = some o) (X : AO) : ∃ H1, Sub H1 (upd Hs y X) ∧ Row H H1 out cs n sz := by
  rcases h with ⟨h1, h2, h3, rfl⟩ | ⟨q, rfl, hq, rfl⟩
  · exact ⟨H, hs.upd hy, .inl ⟨h1, h2, h3, rfl⟩⟩
  · have hne : y ≠ q := by rintro rfl; rw [hq] at hB; cases hB
    refine ⟨_, (hs.cong).upd ?_, .mk (hs.none_of hq)⟩
    simp only [upd_apply, if_neg hne]; exact hy
/-- What the box of a row becomes, once the row is longer. -/
theorem sub_turn {B H' : AH} {z q : Nat} {X C : AO} (hq : (upd B z X) q = none) (hs : Sub (upd (upd B z X) q C) H') (X' : AO) : H' z = some X ∧ (upd B z X') q = none ∧ Sub (upd (upd B z X') q C) (upd H' z X') ∧ B q = none ∧ q ≠ z ∧ z ≠ q := by
  obtain ⟨n1, n2, hB⟩ := upd_none'.1 hq
  refine ⟨hs z X (by simp [upd_apply, n2]), by simp [upd_apply, n1, hB], fun j o hj => ?_, hB, n1, n2⟩
  simp only [upd_apply] at hj ⊢
  by_cases e : j = z
  · subst e; simpa [n2] using hj
  · rw [if_neg e]
    refine hs j o ?_
    simp only [upd_apply]
    by_cases e2 : j = q
    · subst e2; simpa using hj
    · simpa [e, e2] using hj
theorem Sub.at {H H' : AH} {b : Nat} {o : AO} (h : Sub H H') (hb : H b = some o) : H' b = some o := h b o hb
theorem flat_at {E : Type} {enc : E → List AV} {k : Nat} (he : ∀ x, (enc x).length = k) {l : List E} {i : Nat} (h : i < l.length) : ∃ rest, (flat enc l).drop (i * k) = enc l[i] ++ rest := ⟨_, flat_drop he l i h⟩
theorem Row.one {H0 H : AH} {out : AV} {cs : List AV} {n sz : Nat} (h : Row H0 H out cs n sz) : out.one = true := by
  rcases h with ⟨_, _, rfl, _⟩ | ⟨_, rfl, _⟩ <;> rfl
theorem RowIn.one {H : AH} {out : AV} {cs : List AV} {n sz : Nat} (h : RowIn H out cs n sz) : out.one = true := by
  rcases h with ⟨_, ⟨_, rfl⟩ | ⟨_, _, rfl, _⟩⟩ <;> rfl
theorem flat_snoc {E : Type} {enc : E → List AV} (l : List E) (e : E) : flat enc l ++ enc e = flat enc (l ++ [e]) := by simp [flat]
end Go.Ab
