/-
  GrabNil: for every call the law returns true, and its argument reads as it did. No conditions: every input that the row admits.
-/
import Derived.Test.YtmchflhambfhkaaG4
import Derived.Test.YtmchflhambfhkaaRows
import Derived.WalkKit
import Derived.ProofKit
namespace Go.Proofs.Ytmchflhambfhkaa
open Go Go.Ab Go.RowKit Go.ChangeShapes Go.WideShapes Go.ChangeAt

theorem own : ownKnob Try.prog.godebug = none := by kernel_rfl
theorem laidOut : laidOutB Try.prog = true := by kernel_rfl

theorem FitL.four {a : AV} (h : FitT true [.i .i64, .i .i64, .i .i64, .i .i64] a) : ∃ x0 x1 x2 x3 : Int, a = .ag [vi x0, vi x1, vi x2, vi x3] := by
  obtain ⟨cs, rfl, hl, hf⟩ := h
  match cs, hl with
  | [a0, a1, a2, a3], _ =>
    have h0 := hf 0 _ _ rfl rfl
    have h1 := hf 1 _ _ rfl rfl
    have h2 := hf 2 _ _ rfl rfl
    have h3 := hf 3 _ _ rfl rfl
    cases h0; cases h1; cases h2; cases h3
    exact ⟨_, _, _, _, rfl⟩

theorem grabNil_lifted (os : Os) (started : os.Started) (H : Type) (enc : TypeId × Value → H) :
    ReturnsInHanded {} Try.checked os 9 .any (Rows.grabNilSpec.pre6 enc Try.prog Try.f9 Rows.grabNilRow.domain false) (Rows.grabNilSpec.post enc Try.prog Try.f9 false true false false) := by
  refine returnsInHanded_of_change_sized (C := Try.checked) own started (by kernel_rfl) Try.func9
    (ChangeSpec.witness6 (enc := enc) (C := Try.checked) false ⟨#[], #[.agg #[.int .i64 0, .int .i64 0, .int .i64 0, .int .i64 0]], []⟩ 8 (by kernel_rfl) (by kernel_rfl) (by kernel_rfl) (by kernel_rfl)) ?_
  intro W base args ds gs before hval hW _ _ _
  refine law_contract (L := [(true, [.i .i64, .i .i64, .i .i64, .i .i64])]) laidOut (by kernel_rfl) rfl (fun ds hd => ?_) ⟨_, rfl, by kernel_rfl⟩ ?_ (fun xs hf => ?_) W base args ds gs before hval hW
  · match ds, hd with
    | [d], _ => exact ⟨rfl, rfl, rfl⟩
  · exact of_decide_eq_true (by kernel_rfl)
  · match xs, hf with
    | [a], ⟨h, _⟩ =>
      obtain ⟨x0, x1, x2, x3, rfl⟩ := FitL.four h
      exact grabNil fun _ => rfl

theorem grabNil_holds : Rows.GrabNilSaid :=
  OpenClaim.holds_of_wide 9 Try.f9 rfl rfl rfl rfl rfl rfl rfl ⟨rfl, rfl, rfl, rfl, rfl⟩ rfl rfl rfl rfl rfl (by kernel_rfl) Try.func9 (by kernel_rfl)
    (of_decide_eq_true (by kernel_rfl)) (by unfold Func.isWrapper; first | (rw [if_pos (by decide +kernel)]; kernel_rfl) | (rw [if_neg (by decide +kernel)]; exact ⟨rfl, rfl⟩))
    (fun os started H enc _ => grabNil_lifted os started H enc)
end Go.Proofs.Ytmchflhambfhkaa
