/- The law CalendarTiles returns true: an instant is in its cycle, and cycles are adjacent.
No condition: for every input of the function's parameter types. -/
import Derived.Test.YtndiiiapmnfhjaaE17
import Derived.Test.YtndiiiapmnfhjaaRows
import Derived.WalkKit
import Derived.ProofKit
import Derived.OpenShut
namespace Go.Proofs.Ytndiiiapmnfhjaa.calendarTiles
open Go.ChangeShapes Go.WideShapes Go.ChangeAt Go.RowKit Go.Am
theorem own : ownKnob Try.prog.godebug = none := by kernel_rfl
set_option maxRecDepth 100000 in
theorem lifted (os : Os) (started : os.Started) (H : Type) (enc : TypeId × Value → H) :
    ReturnsInHanded {} Try.checked os 7 .any (Rows.calendarTilesSpec.pre6 enc Try.prog Try.f7 Rows.calendarTilesRow.domain false) (Rows.calendarTilesSpec.post enc Try.prog Try.f7 false true false false) := by
  refine returnsInHanded_of_change (C := Try.checked) own started (by kernel_rfl) Try.func7
    (ChangeSpec.witness6 (enc := enc) (C := Try.checked) false ⟨#[], #[.int .i64 0, .int .i64 0, .agg #[.int .i64 0, .int .i64 0]], []⟩ 8 (by kernel_rfl) (by kernel_rfl) (by kernel_rfl) (by kernel_rfl)) ?_
  intro W base args ds gs before hval hW hcnd _
  refine law_calls (P := Try.prog) (tb := 4) (S := [37, 3]) sound (by kernel_rfl) (fun us h => ⟨_, all_calendarTiles us h⟩) (by kernel_rfl) rfl (fun ds hl => ?_) (by kernel_rfl) (by kernel_rfl) hval hW
  match ds, hl with
  | [d1, d2, d3], _ => exact ⟨rfl, rfl, rfl⟩
theorem over : Rows.calendarTilesRow.holds Try.pinned (OpenSpec.ofChange Rows.calendarTilesSpec) :=
  OpenClaim.holds_of_wide 7 Try.f7 rfl rfl rfl rfl rfl rfl rfl ⟨rfl, rfl, rfl, rfl, rfl⟩ rfl rfl rfl rfl rfl (by kernel_rfl) Try.func7 (by kernel_rfl)
    (of_decide_eq_true (by kernel_rfl)) (by unfold Func.isWrapper; first | (rw [if_pos (by decide +kernel)]; kernel_rfl) | (rw [if_neg (by decide +kernel)]; exact ⟨rfl, rfl⟩))
    (fun os started H enc _ => lifted os started H enc)
/-- The statement. -/
theorem proved : Rows.CalendarTilesSaid := over
#print axioms proved
end Go.Proofs.Ytndiiiapmnfhjaa.calendarTiles
