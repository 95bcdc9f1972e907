/- The law CodecCut returns true: a part of the encoded bytes that is not all of them is ErrTruncated (texts and lists of at most 60 elements).
No condition: for every input of the function's parameter types. -/
import Derived.Test.YtbnjembcmddjoaaE16
import Derived.Test.YtbnjembcmddjoaaRows
import Derived.WalkKit
import Derived.ProofKit
import Derived.OpenShut
namespace Go.Proofs.Ytbnjembcmddjoaa.codecCut
open Go.ChangeShapes Go.WideShapes Go.ChangeAt Go.RowKit Go.Am
theorem own : ownKnob Try.prog.godebug = none := by kernel_rfl
set_option maxRecDepth 100000 in
theorem lifted (os : Os) (started : os.Started) (H : Type) (enc : TypeId × Value → H) :
    ReturnsInHanded {} Try.checked os 16 .any (Rows.codecCutSpec.pre6 enc Try.prog Try.f16 Rows.codecCutRow.domain false) (Rows.codecCutSpec.post enc Try.prog Try.f16 false true false false) := by
  refine returnsInHanded_of_change (C := Try.checked) own started (by kernel_rfl) Try.func16
    (ChangeSpec.witness6 (enc := enc) (C := Try.checked) false ⟨#[], #[.agg #[.int .i64 0, .int .i64 0, .int .i64 0, .string ByteArray.empty, .string ByteArray.empty, .int .i64 0, .int .i64 0, .int .i64 0, .int .i64 0, .bool false, .int .i64 0, .bool false], .slice none 0 0, .int .u16 0], []⟩ 8 (by kernel_rfl) (by kernel_rfl) (by kernel_rfl) (by kernel_rfl)) ?_
  intro W base args ds gs before hval hW hcnd _
  refine law_calls (P := Try.prog) (tb := 4) (S := [29, 32, 3, 9, 4, 59]) sound (by kernel_rfl) (fun us h => ⟨_, all_codecCut us h⟩) (by kernel_rfl) rfl (fun ds hl => ?_) (by kernel_rfl) (by kernel_rfl) hval hW
  match ds, hl with
  | [d1, d2, d3], _ => exact ⟨rfl, rfl, rfl⟩
theorem over : Rows.codecCutRow.holds Try.pinned (OpenSpec.ofChange Rows.codecCutSpec) :=
  OpenClaim.holds_of_wide 16 Try.f16 rfl rfl rfl rfl rfl rfl rfl ⟨rfl, rfl, rfl, rfl, rfl⟩ rfl rfl rfl rfl rfl (by kernel_rfl) Try.func16 (by kernel_rfl)
    (of_decide_eq_true (by kernel_rfl)) (by unfold Func.isWrapper; first | (rw [if_pos (by decide +kernel)]; kernel_rfl) | (rw [if_neg (by decide +kernel)]; exact ⟨rfl, rfl⟩))
    (fun os started H enc _ => lifted os started H enc)
/-- The statement. -/
theorem proved : Rows.CodecCutSaid := over
#print axioms proved
end Go.Proofs.Ytbnjembcmddjoaa.codecCut
