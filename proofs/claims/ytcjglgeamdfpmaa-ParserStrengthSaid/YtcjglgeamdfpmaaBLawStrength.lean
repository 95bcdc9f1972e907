/- The law ParserStrength returns true: stronger operators bind first, equally strong ones from the left, comparisons do not follow one another.
No condition: for every input of the function's parameter types. -/
import Derived.Test.YtcjglgeamdfpmaaBXc24
import Derived.Test.YtcjglgeamdfpmaaRows
import Derived.WalkKit
import Derived.ProofKit
import Derived.OpenShut
namespace Go.Proofs.Ytcjglgeamdfpmaa.parserStrength
open Go.ChangeShapes Go.WideShapes Go.ChangeAt Go.RowKit Go.Am
theorem own : ownKnob Try.prog.godebug = none := by kernel_rfl
set_option maxRecDepth 100000 in
theorem lifted (os : Os) (started : os.Started) (H : Type) (enc : TypeId × Value → H) :
    ReturnsInHanded {} Try.checked os 16 .any (Rows.parserStrengthSpec.pre6 enc Try.prog Try.f16 Rows.parserStrengthRow.domain false) (Rows.parserStrengthSpec.post enc Try.prog Try.f16 false true false false) := by
  refine returnsInHanded_sized (C := Try.checked) own started (by kernel_rfl) Try.func16
    (ChangeSpec.witness6 (enc := enc) (C := Try.checked) false ⟨#[], #[.agg #[.int .u8 0, .int .u8 0], .agg #[.int .u16 0, .int .u16 0, .int .u16 0]], []⟩ 8 (by kernel_rfl) (by kernel_rfl) (by kernel_rfl) (by kernel_rfl)) ?_
  intro W base args ds gs before hval hW hcnd hwt
  refine law_calls (P := Try.prog) (tb := 4) (S := [62, 64, 5, 63, 4]) sound (by kernel_rfl) (fun us h => ⟨_, all_parserStrength us h⟩) (by kernel_rfl) rfl (fun ds hl => ?_) (by kernel_rfl) (by kernel_rfl) hval hW hwt
  match ds, hl with
  | [d1, d2], _ => exact ⟨rfl, rfl, rfl⟩
theorem over : Rows.parserStrengthRow.holds Try.pinned (OpenSpec.ofChange Rows.parserStrengthSpec) :=
  OpenClaim.holds_of_wide 16 Try.f16 rfl rfl rfl rfl rfl rfl rfl ⟨rfl, rfl, rfl, rfl, rfl⟩ rfl rfl rfl rfl rfl (by kernel_rfl) Try.func16 (by kernel_rfl)
    (of_decide_eq_true (by kernel_rfl)) (by unfold Func.isWrapper; first | (rw [if_pos (by decide +kernel)]; kernel_rfl) | (rw [if_neg (by decide +kernel)]; exact ⟨rfl, rfl⟩))
    (fun os started H enc _ => lifted os started H enc)
/-- The statement. -/
theorem proved : Rows.ParserStrengthSaid := over
#print axioms proved
end Go.Proofs.Ytcjglgeamdfpmaa.parserStrength
