/-
  What the arguments of the laws read as: numbers, a call, a list of calls; and two facts of the program that every row asks. No conditions.
-/
import Derived.Test.YtmchflhambfhkaaG7
import Derived.Test.YtmchflhambfhkaaRows
import Derived.WalkKit
import Derived.ProofKit
namespace Go.Proofs.Ytmchflhambfhkaa
open Go Go.Ab Go.RowKit Go.ChangeShapes Go.WideShapes Go.ChangeAt

theorem own : ownKnob Try.prog.godebug = none := by kernel_rfl
theorem laidOut : laidOutB Try.prog = true := by kernel_rfl

abbrev opL : List Lf := [.i .i64, .i .i64, .i .i64, .i .i64]

theorem fit_int {a : AV} {k : IntKind} (h : FitT false [.i k] a) : ∃ x : Int, a = .pl (.int k x) ∧ (Lit.int k x).wf = true := by
  have := h.2 0 _ _ rfl rfl
  cases this
  exact ⟨_, rfl, by assumption⟩
theorem fit_bool {a : AV} (h : FitT false [.b] a) : ∃ x : Bool, a = vb x := by
  have := h.2 0 _ _ rfl rfl
  cases this
  exact ⟨_, rfl⟩

theorem fit_op {a : AV} (h : FitT true opL a) : ∃ x : Opn, a = .ag (opc x) := by
  obtain ⟨cs, rfl, hl, hf⟩ := h
  match cs, hl with
  | [a0, a1, a2, a3], _ =>
    have h0 := hf 0 _ _ rfl rfl
    have h1 := hf 1 _ _ rfl rfl
    have h2 := hf 2 _ _ rfl rfl
    have h3 := hf 3 _ _ rfl rfl
    cases h0; cases h1; cases h2; cases h3
    exact ⟨⟨_, _, _, _⟩, rfl⟩

theorem ops_of : ∀ (n : Nat) (cs : List AV), cs.length = n * 4 → (∀ (j : Nat) (l : Lf) (a : AV), cs[j]? = some a → opL[j % 4]? = some l → Fit l a) → ∃ l : List Opn, l.length = n ∧ cs = opcs l
  | 0, cs, h, _ => ⟨[], rfl, by simpa [opcs] using h⟩
  | n + 1, cs, h, hf => by
    match cs, h with
    | a0 :: a1 :: a2 :: a3 :: cs', h =>
      obtain ⟨l, h1, h2⟩ := ops_of n cs' (by simp at h; omega) (fun j l a ha hl => hf (j + 4) l a (by simpa using ha) (by simpa [Nat.add_mod_right] using hl))
      have g0 := hf 0 _ _ rfl rfl
      have g1 := hf 1 _ _ rfl rfl
      have g2 := hf 2 _ _ rfl rfl
      have g3 := hf 3 _ _ rfl rfl
      cases g0; cases g1; cases g2; cases g3
      exact ⟨⟨_, _, _, _⟩ :: l, by simp [h1], by rw [h2]; rfl⟩
    | [], h => simp at h
    | [a0], h => simp at h; omega
    | [a0, a1], h => simp at h; omega
    | [a0, a1, a2], h => simp at h; omega

theorem fit_ops {a : AV} (h : FitT false [.sl opL] a) : ∃ n cs, a = .vs n false cs ∧ n ≤ maxLen ∧ ∃ l : List Opn, l.length = n ∧ cs = opcs l := by
  have := h.2 0 _ _ rfl rfl
  cases this with
  | sl _ n cs hn hl hf => exact ⟨n, cs, rfl, hn, ops_of n cs (by simpa using hl) hf⟩
end Go.Proofs.Ytmchflhambfhkaa
