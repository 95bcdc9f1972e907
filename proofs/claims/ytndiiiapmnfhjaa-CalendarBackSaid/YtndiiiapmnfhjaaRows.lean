/-
  No cell of these rows narrows 'for every input' (looked for: loops, veiled, ifaces, maps, wideKeys, modest, calm, conditions, laid).
  DERIVED. THE GIVEN ROWS OF THIS SEAT. 6 by the template 'for every input the law returns true; each argument reads behind the call as it read before'; 0 by the template 'total and deterministic' (their statements: YtndiiiapmnfhjaaTotals.lean).
  GIVEN WITH THE SEED: the statements are not yours to turn. If you find one false, say at which input.
  Laid BY PROGRAM, IN A SANDBOX (cutbox-rows.mjs): the forced cells as the released guide's own fill.sh prints them over the translation 6d3ce72b80c88db7… (all of the seat's roots in one cut). By AI agents, Wed Nov 11 2026. No macro, syntax, notation, axiom, sorry.
-/
import Derived.Test.YtndiiiapmnfhjaaChecked
import GoSem.Claim
import GoSem.ClaimJoined
import GoSem.ClaimMapViews
import Derived.JoinedTies
import Derived.KernelRfl
namespace Go.Proofs.Ytndiiiapmnfhjaa
/- THE CELL 'sum', in the pinned program and in every row, IS THE sha256 OF THE DUMP (.gsa) THAT YtndiiiapmnfhjaaProg.lean LOADS. Nothing in Lean hashes anything: it is a label: what it is worth is what the hold of that sum in a sandbox is worth. -/
noncomputable def Try.pinned : Pinned := { name := "ytndiiiapmnfhjaa", sum := "6d3ce72b80c88db7b039708bc8de30300e1e6f6a8a50191eb0a8e9b1b6543c4a", checked := Try.checked }
namespace Rows
def none {H : Type} : Left H := { results := [], args := [] }

/-- 'billinglaw03.CalendarDays': WHATEVER THE INPUT: true; the input reads as it did. -/
def calendarDaysSpec : ChangeSpec := { name := "calendarDays", fn := fun _ => fun
  | [d] => { results := [.lit (.bool true)], args := [d] }
  | _ => none }
def calendarDaysRow : OpenClaim := { program := "ytndiiiapmnfhjaa", sum := "6d3ce72b80c88db7b039708bc8de30300e1e6f6a8a50191eb0a8e9b1b6543c4a", func := "billing/billinglaw03.CalendarDays", spec := "calendarDays", recurses := true, apart := false }
def CalendarDaysSaid : Prop := calendarDaysRow.holds Try.pinned (OpenSpec.ofChange calendarDaysSpec)

/-- ITS FALSE NEIGHBOUR: 'it returns false'. Refute it at one input. -/
def calendarDaysWrong : ChangeSpec := { name := "calendarDays", fn := fun _ => fun
  | [d] => { results := [.lit (.bool false)], args := [d] }
  | _ => none }
def CalendarDaysWrongFalsely : Prop := calendarDaysRow.holds Try.pinned (OpenSpec.ofChange calendarDaysWrong)

/-- 'billinglaw03.CalendarDates': WHATEVER THE INPUT: true; the input reads as it did. -/
def calendarDatesSpec : ChangeSpec := { name := "calendarDates", fn := fun _ => fun
  | [d] => { results := [.lit (.bool true)], args := [d] }
  | _ => none }
def calendarDatesRow : OpenClaim := { program := "ytndiiiapmnfhjaa", sum := "6d3ce72b80c88db7b039708bc8de30300e1e6f6a8a50191eb0a8e9b1b6543c4a", func := "billing/billinglaw03.CalendarDates", spec := "calendarDates", recurses := true, apart := false }
def CalendarDatesSaid : Prop := calendarDatesRow.holds Try.pinned (OpenSpec.ofChange calendarDatesSpec)

/-- ITS FALSE NEIGHBOUR: 'it returns false'. Refute it at one input. -/
def calendarDatesWrong : ChangeSpec := { name := "calendarDates", fn := fun _ => fun
  | [d] => { results := [.lit (.bool false)], args := [d] }
  | _ => none }
def CalendarDatesWrongFalsely : Prop := calendarDatesRow.holds Try.pinned (OpenSpec.ofChange calendarDatesWrong)

/-- 'billinglaw03.CalendarBack': WHATEVER THE INPUT: true; the input reads as it did. -/
def calendarBackSpec : ChangeSpec := { name := "calendarBack", fn := fun _ => fun
  | [d1, d2, d3] => { results := [.lit (.bool true)], args := [d1, d2, d3] }
  | _ => none }
def calendarBackRow : OpenClaim := { program := "ytndiiiapmnfhjaa", sum := "6d3ce72b80c88db7b039708bc8de30300e1e6f6a8a50191eb0a8e9b1b6543c4a", func := "billing/billinglaw03.CalendarBack", spec := "calendarBack", recurses := true, apart := false }
def CalendarBackSaid : Prop := calendarBackRow.holds Try.pinned (OpenSpec.ofChange calendarBackSpec)

/-- ITS FALSE NEIGHBOUR: 'it returns false'. Refute it at one input. -/
def calendarBackWrong : ChangeSpec := { name := "calendarBack", fn := fun _ => fun
  | [d1, d2, d3] => { results := [.lit (.bool false)], args := [d1, d2, d3] }
  | _ => none }
def CalendarBackWrongFalsely : Prop := calendarBackRow.holds Try.pinned (OpenSpec.ofChange calendarBackWrong)

/-- 'billinglaw03.CalendarCycles': WHATEVER THE INPUT: true; the input reads as it did. -/
def calendarCyclesSpec : ChangeSpec := { name := "calendarCycles", fn := fun _ => fun
  | [d1, d2, d3] => { results := [.lit (.bool true)], args := [d1, d2, d3] }
  | _ => none }
def calendarCyclesRow : OpenClaim := { program := "ytndiiiapmnfhjaa", sum := "6d3ce72b80c88db7b039708bc8de30300e1e6f6a8a50191eb0a8e9b1b6543c4a", func := "billing/billinglaw03.CalendarCycles", spec := "calendarCycles", recurses := true, apart := false }
def CalendarCyclesSaid : Prop := calendarCyclesRow.holds Try.pinned (OpenSpec.ofChange calendarCyclesSpec)

/-- ITS FALSE NEIGHBOUR: 'it returns false'. Refute it at one input. -/
def calendarCyclesWrong : ChangeSpec := { name := "calendarCycles", fn := fun _ => fun
  | [d1, d2, d3] => { results := [.lit (.bool false)], args := [d1, d2, d3] }
  | _ => none }
def CalendarCyclesWrongFalsely : Prop := calendarCyclesRow.holds Try.pinned (OpenSpec.ofChange calendarCyclesWrong)

/-- 'billinglaw03.CalendarTiles': WHATEVER THE INPUT: true; the input reads as it did. -/
def calendarTilesSpec : ChangeSpec := { name := "calendarTiles", fn := fun _ => fun
  | [d1, d2, d3] => { results := [.lit (.bool true)], args := [d1, d2, d3] }
  | _ => none }
def calendarTilesRow : OpenClaim := { program := "ytndiiiapmnfhjaa", sum := "6d3ce72b80c88db7b039708bc8de30300e1e6f6a8a50191eb0a8e9b1b6543c4a", func := "billing/billinglaw03.CalendarTiles", spec := "calendarTiles", recurses := true, apart := false }
def CalendarTilesSaid : Prop := calendarTilesRow.holds Try.pinned (OpenSpec.ofChange calendarTilesSpec)

/-- ITS FALSE NEIGHBOUR: 'it returns false'. Refute it at one input. -/
def calendarTilesWrong : ChangeSpec := { name := "calendarTiles", fn := fun _ => fun
  | [d1, d2, d3] => { results := [.lit (.bool false)], args := [d1, d2, d3] }
  | _ => none }
def CalendarTilesWrongFalsely : Prop := calendarTilesRow.holds Try.pinned (OpenSpec.ofChange calendarTilesWrong)

/-- 'billinglaw03.CalendarPrints': WHATEVER THE INPUT: true; the input reads as it did. -/
def calendarPrintsSpec : ChangeSpec := { name := "calendarPrints", fn := fun _ => fun
  | [d1, d2] => { results := [.lit (.bool true)], args := [d1, d2] }
  | _ => none }
def calendarPrintsRow : OpenClaim := { program := "ytndiiiapmnfhjaa", sum := "6d3ce72b80c88db7b039708bc8de30300e1e6f6a8a50191eb0a8e9b1b6543c4a", func := "billing/billinglaw03.CalendarPrints", spec := "calendarPrints", recurses := true, apart := false }
def CalendarPrintsSaid : Prop := calendarPrintsRow.holds Try.pinned (OpenSpec.ofChange calendarPrintsSpec)

/-- ITS FALSE NEIGHBOUR: 'it returns false'. Refute it at one input. -/
def calendarPrintsWrong : ChangeSpec := { name := "calendarPrints", fn := fun _ => fun
  | [d1, d2] => { results := [.lit (.bool false)], args := [d1, d2] }
  | _ => none }
def CalendarPrintsWrongFalsely : Prop := calendarPrintsRow.holds Try.pinned (OpenSpec.ofChange calendarPrintsWrong)

/- THE SECOND FORM. 'bulk': how many values and letters a reading holds, each counted each time it is reached (what is shared counts as often as it is met; a slice's spare places count too). A statement '..UptoSaid' is the law's where the arguments, and the package variables that the reading takes, are together of bulk at most 1048576: NARROWER than '..Said'. Prove '..Said' where nothing that the law and all that it calls make is longer than what came in: it says more and counts as full. Else prove '..UptoSaid'. A law counts once. -/
mutual
def uptoBulk {H : Type} : DataW H → Nat
  | .lit (.string bytes) => bytes.length + 1
  | .lit _ => 1
  | .nil => 1
  | .ptr d => uptoBulk d + 1
  | .slice elems spare => uptoBulkAll elems + uptoBulkAll spare + 1
  | .agg parts => uptoBulkAll parts + 1
  | .iface _ d => uptoBulk d + 1
  | .map entries => uptoBulkEntries entries + 1
  | .held _ => 1
def uptoBulkAll {H : Type} : List (DataW H) → Nat
  | [] => 0
  | d :: r => uptoBulk d + uptoBulkAll r
def uptoBulkEntries {H : Type} : List (Lit × DataW H) → Nat
  | [] => 0
  | x :: r => uptoBulkEntry x + uptoBulkEntries r
def uptoBulkEntry {H : Type} : Lit × DataW H → Nat
  | (.string bytes, d) => bytes.length + uptoBulk d + 1
  | (_, d) => uptoBulk d + 1
 end
def uptoSmall : (H : Type) → List (DataW H) → Bool := fun _ ds => decide (uptoBulkAll ds ≤ 1048576)
def OpenSpec.upto (s : _root_.Go.ChangeSpec) : _root_.Go.OpenSpec := { _root_.Go.OpenSpec.ofChange s with cond := some uptoSmall }

/-- 'billinglaw03.CalendarDays', WHERE WHAT IT READS IS OF BULK AT MOST 1048576: true; the input reads as it did. -/
def calendarDaysUptoRow : OpenClaim := { program := "ytndiiiapmnfhjaa", sum := "6d3ce72b80c88db7b039708bc8de30300e1e6f6a8a50191eb0a8e9b1b6543c4a", func := "billing/billinglaw03.CalendarDays", spec := "calendarDays", recurses := true, apart := false, narrowed := true }
def CalendarDaysUptoSaid : Prop := calendarDaysUptoRow.holds Try.pinned (OpenSpec.upto calendarDaysSpec)

/-- 'billinglaw03.CalendarDates', WHERE WHAT IT READS IS OF BULK AT MOST 1048576: true; the input reads as it did. -/
def calendarDatesUptoRow : OpenClaim := { program := "ytndiiiapmnfhjaa", sum := "6d3ce72b80c88db7b039708bc8de30300e1e6f6a8a50191eb0a8e9b1b6543c4a", func := "billing/billinglaw03.CalendarDates", spec := "calendarDates", recurses := true, apart := false, narrowed := true }
def CalendarDatesUptoSaid : Prop := calendarDatesUptoRow.holds Try.pinned (OpenSpec.upto calendarDatesSpec)

/-- 'billinglaw03.CalendarBack', WHERE WHAT IT READS IS OF BULK AT MOST 1048576: true; the input reads as it did. -/
def calendarBackUptoRow : OpenClaim := { program := "ytndiiiapmnfhjaa", sum := "6d3ce72b80c88db7b039708bc8de30300e1e6f6a8a50191eb0a8e9b1b6543c4a", func := "billing/billinglaw03.CalendarBack", spec := "calendarBack", recurses := true, apart := false, narrowed := true }
def CalendarBackUptoSaid : Prop := calendarBackUptoRow.holds Try.pinned (OpenSpec.upto calendarBackSpec)

/-- 'billinglaw03.CalendarCycles', WHERE WHAT IT READS IS OF BULK AT MOST 1048576: true; the input reads as it did. -/
def calendarCyclesUptoRow : OpenClaim := { program := "ytndiiiapmnfhjaa", sum := "6d3ce72b80c88db7b039708bc8de30300e1e6f6a8a50191eb0a8e9b1b6543c4a", func := "billing/billinglaw03.CalendarCycles", spec := "calendarCycles", recurses := true, apart := false, narrowed := true }
def CalendarCyclesUptoSaid : Prop := calendarCyclesUptoRow.holds Try.pinned (OpenSpec.upto calendarCyclesSpec)

/-- 'billinglaw03.CalendarTiles', WHERE WHAT IT READS IS OF BULK AT MOST 1048576: true; the input reads as it did. -/
def calendarTilesUptoRow : OpenClaim := { program := "ytndiiiapmnfhjaa", sum := "6d3ce72b80c88db7b039708bc8de30300e1e6f6a8a50191eb0a8e9b1b6543c4a", func := "billing/billinglaw03.CalendarTiles", spec := "calendarTiles", recurses := true, apart := false, narrowed := true }
def CalendarTilesUptoSaid : Prop := calendarTilesUptoRow.holds Try.pinned (OpenSpec.upto calendarTilesSpec)

/-- 'billinglaw03.CalendarPrints', WHERE WHAT IT READS IS OF BULK AT MOST 1048576: true; the input reads as it did. -/
def calendarPrintsUptoRow : OpenClaim := { program := "ytndiiiapmnfhjaa", sum := "6d3ce72b80c88db7b039708bc8de30300e1e6f6a8a50191eb0a8e9b1b6543c4a", func := "billing/billinglaw03.CalendarPrints", spec := "calendarPrints", recurses := true, apart := false, narrowed := true }
def CalendarPrintsUptoSaid : Prop := calendarPrintsUptoRow.holds Try.pinned (OpenSpec.upto calendarPrintsSpec)

end Rows
end Go.Proofs.Ytndiiiapmnfhjaa
