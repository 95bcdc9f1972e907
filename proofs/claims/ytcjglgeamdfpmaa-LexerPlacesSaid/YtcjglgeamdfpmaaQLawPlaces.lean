/- The law LexerPlaces returns true: each token stands at its place, with only blanks between.
No condition: for every input of the function's parameter types. -/
import Derived.Test.YtcjglgeamdfpmaaQN2
import Derived.Test.YtcjglgeamdfpmaaRows
import Derived.WalkKit
import Derived.ProofKit
import Derived.OpenShut
namespace Go.Proofs.Ytcjglgeamdfpmaa.lexerPlaces
open Go.ChangeShapes Go.WideShapes Go.ChangeAt Go.RowKit Go.Am
theorem own : ownKnob Try.prog.godebug = none := by kernel_rfl
set_option maxRecDepth 100000 in
theorem lifted (os : Os) (started : os.Started) (H : Type) (enc : TypeId × Value → H) :
    ReturnsInHanded {} Try.checked os 8 .any (Rows.lexerPlacesSpec.pre6 enc Try.prog Try.f8 Rows.lexerPlacesRow.domain false) (Rows.lexerPlacesSpec.post enc Try.prog Try.f8 false true false false) := by
  refine returnsInHanded_sized (C := Try.checked) own started (by kernel_rfl) Try.func8
    (ChangeSpec.witness6 (enc := enc) (C := Try.checked) false ⟨#[], #[.string ByteArray.empty], []⟩ 8 (by kernel_rfl) (by kernel_rfl) (by kernel_rfl) (by kernel_rfl)) ?_
  intro W base args ds gs before hval hW hcnd hwt
  refine law_calls (P := Try.prog) (tb := 4) (S := [9, 4]) sound (by kernel_rfl) (fun us h => ⟨_, all_lexerPlaces us h⟩) (by kernel_rfl) rfl (fun ds hl => ?_) (by kernel_rfl) (by kernel_rfl) hval hW hwt
  match ds, hl with
  | [d], _ => exact ⟨rfl, rfl, rfl⟩
theorem over : Rows.lexerPlacesRow.holds Try.pinned (OpenSpec.ofChange Rows.lexerPlacesSpec) :=
  OpenClaim.holds_of_wide 8 Try.f8 rfl rfl rfl rfl rfl rfl rfl ⟨rfl, rfl, rfl, rfl, rfl⟩ rfl rfl rfl rfl rfl (by kernel_rfl) Try.func8 (by kernel_rfl)
    (of_decide_eq_true (by kernel_rfl)) (by unfold Func.isWrapper; first | (rw [if_pos (by decide +kernel)]; kernel_rfl) | (rw [if_neg (by decide +kernel)]; exact ⟨rfl, rfl⟩))
    (fun os started H enc _ => lifted os started H enc)
/-- The statement. -/
theorem proved : Rows.LexerPlacesSaid := over
#print axioms proved
end Go.Proofs.Ytcjglgeamdfpmaa.lexerPlaces
