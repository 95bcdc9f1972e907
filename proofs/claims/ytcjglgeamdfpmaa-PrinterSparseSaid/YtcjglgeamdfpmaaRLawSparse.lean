/- The law PrinterSparse returns true: the text of an expression has no more parentheses than any text of it.
No condition: for every input of the function's parameter types. -/
import Derived.Test.YtcjglgeamdfpmaaRXc25
import Derived.Test.YtcjglgeamdfpmaaRows
import Derived.WalkKit
import Derived.ProofKit
import Derived.OpenShut
namespace Go.Proofs.Ytcjglgeamdfpmaa.printerSparse
open Go.ChangeShapes Go.WideShapes Go.ChangeAt Go.RowKit Go.Am
theorem own : ownKnob Try.prog.godebug = none := by kernel_rfl
set_option maxRecDepth 100000 in
theorem lifted (os : Os) (started : os.Started) (H : Type) (enc : TypeId × Value → H) :
    ReturnsInHanded {} Try.checked os 18 .any (Rows.printerSparseSpec.pre6 enc Try.prog Try.f18 Rows.printerSparseRow.domain false) (Rows.printerSparseSpec.post enc Try.prog Try.f18 false true false false) := by
  refine returnsInHanded_sized (C := Try.checked) own started (by kernel_rfl) Try.func18
    (ChangeSpec.witness6 (enc := enc) (C := Try.checked) false ⟨#[], #[.string ByteArray.empty], []⟩ 8 (by kernel_rfl) (by kernel_rfl) (by kernel_rfl) (by kernel_rfl)) ?_
  intro W base args ds gs before hval hW hcnd hwt
  refine law_calls (P := Try.prog) (tb := 4) (S := [9, 4]) sound (by kernel_rfl) (fun us h => ⟨_, all_printerSparse us h⟩) (by kernel_rfl) rfl (fun ds hl => ?_) (by kernel_rfl) (by kernel_rfl) hval hW hwt
  match ds, hl with
  | [d], _ => exact ⟨rfl, rfl, rfl⟩
theorem over : Rows.printerSparseRow.holds Try.pinned (OpenSpec.ofChange Rows.printerSparseSpec) :=
  OpenClaim.holds_of_wide 18 Try.f18 rfl rfl rfl rfl rfl rfl rfl ⟨rfl, rfl, rfl, rfl, rfl⟩ rfl rfl rfl rfl rfl (by kernel_rfl) Try.func18 (by kernel_rfl)
    (of_decide_eq_true (by kernel_rfl)) (by unfold Func.isWrapper; first | (rw [if_pos (by decide +kernel)]; kernel_rfl) | (rw [if_neg (by decide +kernel)]; exact ⟨rfl, rfl⟩))
    (fun os started H enc _ => lifted os started H enc)
/-- The statement. -/
theorem proved : Rows.PrinterSparseSaid := over
#print axioms proved
end Go.Proofs.Ytcjglgeamdfpmaa.printerSparse
