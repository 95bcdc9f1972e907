/- The law ParserTariffs returns true: the tariff of any text, or the place and the error, are those of the reference.
No condition: for every input of the function's parameter types. -/
import Derived.Test.YtcjglgeamdfpmaaGreatXXc242
import Derived.Test.YtcjglgeamdfpmaaGreatRows
import Derived.WalkKit
import Derived.ProofKit
import Derived.OpenShut
namespace Go.Proofs.YtcjglgeamdfpmaaGreat.parserTariffs
open Go.ChangeShapes Go.WideShapes Go.ChangeAt Go.RowKit Go.Am
theorem own : ownKnob Tryz.prog.godebug = none := by kernel_rfl
set_option maxRecDepth 100000 in
theorem lifted (os : Os) (started : os.Started) (H : Type) (enc : TypeId × Value → H) :
    ReturnsInHanded {} Tryz.checked os 3 .any (Rows.parserTariffsSpec.pre6 enc Tryz.prog Tryz.f3 Rows.parserTariffsRow.domain false) (Rows.parserTariffsSpec.post enc Tryz.prog Tryz.f3 false true false false) := by
  refine returnsInHanded_sized (C := Tryz.checked) own started (by kernel_rfl) Tryz.func3
    (ChangeSpec.witness6 (enc := enc) (C := Tryz.checked) false ⟨#[], #[.string ByteArray.empty], []⟩ 8 (by kernel_rfl) (by kernel_rfl) (by kernel_rfl) (by kernel_rfl)) ?_
  intro W base args ds gs before hval hW hcnd hwt
  refine law_calls (P := Tryz.prog) (tb := 4) (S := [9, 4]) sound (by kernel_rfl) (fun us h => ⟨_, all_parserTariffs us h⟩) (by kernel_rfl) rfl (fun ds hl => ?_) (by kernel_rfl) (by kernel_rfl) hval hW hwt
  match ds, hl with
  | [d], _ => exact ⟨rfl, rfl, rfl⟩
theorem over : Rows.parserTariffsRow.holds Tryz.pinned (OpenSpec.ofChange Rows.parserTariffsSpec) :=
  OpenClaim.holds_of_wide 3 Tryz.f3 rfl rfl rfl rfl rfl rfl rfl ⟨rfl, rfl, rfl, rfl, rfl⟩ rfl rfl rfl rfl rfl (by kernel_rfl) Tryz.func3 (by kernel_rfl)
    (of_decide_eq_true (by kernel_rfl)) (by unfold Func.isWrapper; first | (rw [if_pos (by decide +kernel)]; kernel_rfl) | (rw [if_neg (by decide +kernel)]; exact ⟨rfl, rfl⟩))
    (fun os started H enc _ => lifted os started H enc)
/-- The statement. -/
theorem proved : Rows.ParserTariffsSaid := over
#print axioms proved
end Go.Proofs.YtcjglgeamdfpmaaGreat.parserTariffs
