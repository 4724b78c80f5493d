/-
  Rows in boxes: a row that grows, of which a box holds the slice.
-/
import Derived.Test.YtmpncpamndhmcaaGreatAbM
namespace Go.Ab
open Go.RowKit
set_option linter.unusedVariables false
set_option linter.unusedSimpArgs false

/-- What the box of a row becomes, once the row is longer. -/
theorem sub_turn {B H' : AH} {z q : Nat} {X C : AO} (hq : (upd B z X) q = none) (hs : Sub (upd (upd B z X) q C) H') (X' : AO) : H' z = some X ∧ (upd B z X') q = none ∧ Sub (upd (upd B z X') q C) (upd H' z X') ∧ B q = none ∧ q ≠ z ∧ z ≠ q := by
  obtain ⟨n1, n2, hB⟩ := upd_none'.1 hq
  refine ⟨hs z X (by simp [upd_apply, n2]), by simp [upd_apply, n1, hB], fun j o hj => ?_, hB, n1, n2⟩
  simp only [upd_apply] at hj ⊢
  by_cases e : j = z
  · subst e; simpa [n2] using hj
  · rw [if_neg e]
    refine hs j o ?_
    simp only [upd_apply]
    by_cases e2 : j = q
    · subst e2; simpa using hj
    · simpa [e, e2] using hj
theorem Sub.at {H H' : AH} {b : Nat} {o : AO} (h : Sub H H') (hb : H b = some o) : H' b = some o := h b o hb
theorem Row.one {H0 H : AH} {out : AV} {cs : List AV} {n sz : Nat} (h : Row H0 H out cs n sz) : out.one = true := by
  rcases h with ⟨_, _, rfl, _⟩ | ⟨_, rfl, _⟩ <;> rfl
theorem flat_snoc {E : Type} {enc : E → List AV} (l : List E) (e : E) : flat enc l ++ enc e = flat enc (l ++ [e]) := by simp [flat]

/-! ### Maps with strings as keys -/
section
variable {E : Type} {key : E → ByteArray} {val : E → AV}
end
end Go.Ab
