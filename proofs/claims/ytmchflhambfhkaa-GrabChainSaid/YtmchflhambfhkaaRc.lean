/-
  GrabChain: for every length, cut and click the law returns true, and its arguments read as they did. No conditions: every input that the row admits.
-/
import Derived.Test.YtmchflhambfhkaaG13
import Derived.Test.YtmchflhambfhkaaGf
import Derived.Test.YtmchflhambfhkaaRows
import Derived.WalkKit
import Derived.ProofKit
namespace Go.Proofs.Ytmchflhambfhkaa
open Go Go.Ab Go.RowKit Go.ChangeShapes Go.WideShapes Go.ChangeAt

theorem byte_of {x : Int} (h : (Lit.int .u8 x).wf = true) : 0 ≤ x ∧ x ≤ 255 := by
  have h1 : IntKind.u8.min = 0 := rfl
  have h2 : IntKind.u8.max = 255 := rfl
  simp only [Lit.wf, Bool.and_eq_true, decide_eq_true_eq] at h
  omega

theorem grabChain_lifted (os : Os) (started : os.Started) (H : Type) (enc : TypeId × Value → H) :
    ReturnsInHanded {} Try.checked os 5 .any (Rows.grabChainSpec.pre6 enc Try.prog Try.f5 Rows.grabChainRow.domain false) (Rows.grabChainSpec.post enc Try.prog Try.f5 false true false false) := by
  refine returnsInHanded_of_change_sized (C := Try.checked) own started (by kernel_rfl) Try.func5
    (ChangeSpec.witness6 (enc := enc) (C := Try.checked) false ⟨#[], #[.int .u8 0, .int .u8 0, .bool false], []⟩ 8 (by kernel_rfl) (by kernel_rfl) (by kernel_rfl) (by kernel_rfl)) ?_
  intro W base args ds gs before hval hW _ _ _
  refine law_contract (L := [(false, [.i .u8]), (false, [.i .u8]), (false, [.b])]) laidOut (by kernel_rfl) rfl (fun ds hd => ?_) ⟨_, rfl, by kernel_rfl⟩ ?_ (fun xs hf => ?_) W base args ds gs before hval hW
  · match ds, hd with
    | [d0, d1, d2], _ => exact ⟨rfl, rfl, rfl⟩
  · exact of_decide_eq_true (by kernel_rfl)
  · match xs, hf with
    | [a, b, c], ⟨h1, h2, h3, _⟩ =>
      obtain ⟨x, rfl, hx⟩ := fit_int h1
      obtain ⟨y, rfl, hy⟩ := fit_int h2
      obtain ⟨z, rfl⟩ := fit_bool h3
      exact grabChain x y z (byte_of hx) (byte_of hy) fun _ => rfl

theorem grabChain_holds : Rows.GrabChainSaid :=
  OpenClaim.holds_of_wide 5 Try.f5 rfl rfl rfl rfl rfl rfl rfl ⟨rfl, rfl, rfl, rfl, rfl⟩ rfl rfl rfl rfl rfl (by kernel_rfl) Try.func5 (by kernel_rfl)
    (of_decide_eq_true (by kernel_rfl)) (by unfold Func.isWrapper; first | (rw [if_pos (by decide +kernel)]; kernel_rfl) | (rw [if_neg (by decide +kernel)]; exact ⟨rfl, rfl⟩))
    (fun os started H enc _ => grabChain_lifted os started H enc)
end Go.Proofs.Ytmchflhambfhkaa
