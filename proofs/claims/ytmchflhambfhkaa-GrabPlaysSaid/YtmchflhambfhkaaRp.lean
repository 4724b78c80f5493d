/-
  GrabPlays: for every list of calls and every client the law returns true, and its arguments read as they did. No conditions: every input that the row admits.
-/
import Derived.Test.YtmchflhambfhkaaG18
import Derived.Test.YtmchflhambfhkaaGf
import Derived.Test.YtmchflhambfhkaaRows
import Derived.WalkKit
import Derived.ProofKit
namespace Go.Proofs.Ytmchflhambfhkaa
open Go Go.Ab Go.RowKit Go.ChangeShapes Go.WideShapes Go.ChangeAt

theorem grabPlays_lifted (os : Os) (started : os.Started) (H : Type) (enc : TypeId × Value → H) :
    ReturnsInHanded {} Try.checked os 3 .any (Rows.grabPlaysSpec.pre6 enc Try.prog Try.f3 Rows.grabPlaysRow.domain false) (Rows.grabPlaysSpec.post enc Try.prog Try.f3 false true false false) := by
  refine returnsInHanded_of_change_sized (C := Try.checked) own started (by kernel_rfl) Try.func3
    (ChangeSpec.witness6 (enc := enc) (C := Try.checked) false ⟨#[], #[.slice none 0 0, .int .i64 0], []⟩ 8 (by kernel_rfl) (by kernel_rfl) (by kernel_rfl) (by kernel_rfl)) ?_
  intro W base args ds gs before hval hW _ _ _
  refine law_contract (L := [(false, [.sl opL]), (false, [.i .i64])]) laidOut (by kernel_rfl) rfl (fun ds hd => ?_) ⟨_, rfl, by kernel_rfl⟩ ?_ (fun xs hf => ?_) W base args ds gs before hval hW
  · match ds, hd with
    | [d0, d1], _ => exact ⟨rfl, rfl, rfl⟩
  · exact of_decide_eq_true (by kernel_rfl)
  · match xs, hf with
    | [a, b], ⟨h1, h2, _⟩ =>
      obtain ⟨n, cs, rfl, hn, l, hl⟩ := fit_ops h1
      obtain ⟨x, rfl, _⟩ := fit_int h2
      exact grabPlays x (fun _ => ⟨l, hl⟩) hn fun _ => rfl

theorem grabPlays_holds : Rows.GrabPlaysSaid :=
  OpenClaim.holds_of_wide 3 Try.f3 rfl rfl rfl rfl rfl rfl rfl ⟨rfl, rfl, rfl, rfl, rfl⟩ rfl rfl rfl rfl rfl (by kernel_rfl) Try.func3 (by kernel_rfl)
    (of_decide_eq_true (by kernel_rfl)) (by unfold Func.isWrapper; first | (rw [if_pos (by decide +kernel)]; kernel_rfl) | (rw [if_neg (by decide +kernel)]; exact ⟨rfl, rfl⟩))
    (fun os started H enc _ => grabPlays_lifted os started H enc)
end Go.Proofs.Ytmchflhambfhkaa
