/- The law LexerScans returns true: the tokens of any text, or the place and the error, are the reference's.
No condition: for every input of the function's parameter types. -/
import Derived.Test.YtcjglgeamdfpmaaQN1
import Derived.Test.YtcjglgeamdfpmaaRows
import Derived.WalkKit
import Derived.ProofKit
import Derived.OpenShut
namespace Go.Proofs.Ytcjglgeamdfpmaa.lexerScans
open Go.ChangeShapes Go.WideShapes Go.ChangeAt Go.RowKit Go.Am
theorem own : ownKnob Try.prog.godebug = none := by kernel_rfl
set_option maxRecDepth 100000 in
theorem lifted (os : Os) (started : os.Started) (H : Type) (enc : TypeId × Value → H) :
    ReturnsInHanded {} Try.checked os 5 .any (Rows.lexerScansSpec.pre6 enc Try.prog Try.f5 Rows.lexerScansRow.domain false) (Rows.lexerScansSpec.post enc Try.prog Try.f5 false true false false) := by
  refine returnsInHanded_sized (C := Try.checked) own started (by kernel_rfl) Try.func5
    (ChangeSpec.witness6 (enc := enc) (C := Try.checked) false ⟨#[], #[.string ByteArray.empty], []⟩ 8 (by kernel_rfl) (by kernel_rfl) (by kernel_rfl) (by kernel_rfl)) ?_
  intro W base args ds gs before hval hW hcnd hwt
  refine law_calls (P := Try.prog) (tb := 4) (S := [9, 4]) sound (by kernel_rfl) (fun us h => ⟨_, all_lexerScans us h⟩) (by kernel_rfl) rfl (fun ds hl => ?_) (by kernel_rfl) (by kernel_rfl) hval hW hwt
  match ds, hl with
  | [d], _ => exact ⟨rfl, rfl, rfl⟩
theorem over : Rows.lexerScansRow.holds Try.pinned (OpenSpec.ofChange Rows.lexerScansSpec) :=
  OpenClaim.holds_of_wide 5 Try.f5 rfl rfl rfl rfl rfl rfl rfl ⟨rfl, rfl, rfl, rfl, rfl⟩ rfl rfl rfl rfl rfl (by kernel_rfl) Try.func5 (by kernel_rfl)
    (of_decide_eq_true (by kernel_rfl)) (by unfold Func.isWrapper; first | (rw [if_pos (by decide +kernel)]; kernel_rfl) | (rw [if_neg (by decide +kernel)]; exact ⟨rfl, rfl⟩))
    (fun os started H enc _ => lifted os started H enc)
/-- The statement. -/
theorem proved : Rows.LexerScansSaid := over
#print axioms proved
end Go.Proofs.Ytcjglgeamdfpmaa.lexerScans
