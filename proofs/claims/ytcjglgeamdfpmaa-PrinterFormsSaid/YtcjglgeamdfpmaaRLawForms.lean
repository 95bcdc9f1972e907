/- The law PrinterForms returns true: what the parser returns can be printed, and its printed form has the same printed form.
No condition: for every input of the function's parameter types. -/
import Derived.Test.YtcjglgeamdfpmaaRXc25
import Derived.Test.YtcjglgeamdfpmaaRows
import Derived.WalkKit
import Derived.ProofKit
import Derived.OpenShut
namespace Go.Proofs.Ytcjglgeamdfpmaa.printerForms
open Go.ChangeShapes Go.WideShapes Go.ChangeAt Go.RowKit Go.Am
theorem own : ownKnob Try.prog.godebug = none := by kernel_rfl
set_option maxRecDepth 100000 in
theorem lifted (os : Os) (started : os.Started) (H : Type) (enc : TypeId × Value → H) :
    ReturnsInHanded {} Try.checked os 4 .any (Rows.printerFormsSpec.pre6 enc Try.prog Try.f4 Rows.printerFormsRow.domain false) (Rows.printerFormsSpec.post enc Try.prog Try.f4 false true false false) := by
  refine returnsInHanded_sized (C := Try.checked) own started (by kernel_rfl) Try.func4
    (ChangeSpec.witness6 (enc := enc) (C := Try.checked) false ⟨#[], #[.string ByteArray.empty], []⟩ 8 (by kernel_rfl) (by kernel_rfl) (by kernel_rfl) (by kernel_rfl)) ?_
  intro W base args ds gs before hval hW hcnd hwt
  refine law_calls (P := Try.prog) (tb := 4) (S := [9, 4]) sound (by kernel_rfl) (fun us h => ⟨_, all_printerForms us h⟩) (by kernel_rfl) rfl (fun ds hl => ?_) (by kernel_rfl) (by kernel_rfl) hval hW hwt
  match ds, hl with
  | [d], _ => exact ⟨rfl, rfl, rfl⟩
theorem over : Rows.printerFormsRow.holds Try.pinned (OpenSpec.ofChange Rows.printerFormsSpec) :=
  OpenClaim.holds_of_wide 4 Try.f4 rfl rfl rfl rfl rfl rfl rfl ⟨rfl, rfl, rfl, rfl, rfl⟩ rfl rfl rfl rfl rfl (by kernel_rfl) Try.func4 (by kernel_rfl)
    (of_decide_eq_true (by kernel_rfl)) (by unfold Func.isWrapper; first | (rw [if_pos (by decide +kernel)]; kernel_rfl) | (rw [if_neg (by decide +kernel)]; exact ⟨rfl, rfl⟩))
    (fun os started H enc _ => lifted os started H enc)
/-- The statement. -/
theorem proved : Rows.PrinterFormsSaid := over
#print axioms proved
end Go.Proofs.Ytcjglgeamdfpmaa.printerForms
