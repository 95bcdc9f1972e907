/-
  No cell of these rows narrows 'for every input' (looked for: loops, veiled, ifaces, maps, wideKeys, modest, calm, conditions, laid).
  DERIVED. THE GIVEN ROWS OF THIS SEAT. 6 by the template 'for every input the law returns true; each argument reads behind the call as it read before'; 0 by the template 'total and deterministic' (their statements: YtkoecjhljfmkfaaTotals.lean).
  GIVEN WITH THE SEED: the statements are not yours to turn. If you find one false, say at which input.
  Laid BY PROGRAM, IN A SANDBOX (cutbox-rows.mjs): the forced cells as the released guide's own fill.sh prints them over the translation 372e5432c999ecb0… (all of the seat's roots in one cut). By AI agents, Wed Nov 11 2026. No macro, syntax, notation, axiom, sorry.
-/
import Derived.Test.YtkoecjhljfmkfaaChecked
import GoSem.Claim
import GoSem.ClaimJoined
import GoSem.ClaimMapViews
import Derived.JoinedTies
import Derived.KernelRfl
namespace Go.Proofs.Ytkoecjhljfmkfaa
/- THE CELL 'sum', in the pinned program and in every row, IS THE sha256 OF THE DUMP (.gsa) THAT YtkoecjhljfmkfaaProg.lean LOADS. Nothing in Lean hashes anything: it is a label: what it is worth is what the hold of that sum in a sandbox is worth. -/
noncomputable def Try.pinned : Pinned := { name := "ytkoecjhljfmkfaa", sum := "372e5432c999ecb0868f3e0de7485956c5207a731bbfea1437528d9f0398e5e8", checked := Try.checked }
namespace Rows
def none {H : Type} : Left H := { results := [], args := [] }

/-- 'billinglaw32.CounterChecks': WHATEVER THE INPUT: true; the input reads as it did. -/
def counterChecksSpec : ChangeSpec := { name := "counterChecks", fn := fun _ => fun
  | [d] => { results := [.lit (.bool true)], args := [d] }
  | _ => none }
def counterChecksRow : OpenClaim := { program := "ytkoecjhljfmkfaa", sum := "372e5432c999ecb0868f3e0de7485956c5207a731bbfea1437528d9f0398e5e8", func := "billing/billinglaw32.CounterChecks", spec := "counterChecks", unfollowed := true, recurses := true, apart := false }
def CounterChecksSaid : Prop := counterChecksRow.holds Try.pinned (OpenSpec.ofChange counterChecksSpec)

/-- ITS FALSE NEIGHBOUR: 'it returns false'. Refute it at one input. -/
def counterChecksWrong : ChangeSpec := { name := "counterChecks", fn := fun _ => fun
  | [d] => { results := [.lit (.bool false)], args := [d] }
  | _ => none }
def CounterChecksWrongFalsely : Prop := counterChecksRow.holds Try.pinned (OpenSpec.ofChange counterChecksWrong)

/-- 'billinglaw32.CounterGets': WHATEVER THE INPUT: true; the input reads as it did. -/
def counterGetsSpec : ChangeSpec := { name := "counterGets", fn := fun _ => fun
  | [d1, d2, d3] => { results := [.lit (.bool true)], args := [d1, d2, d3] }
  | _ => none }
def counterGetsRow : OpenClaim := { program := "ytkoecjhljfmkfaa", sum := "372e5432c999ecb0868f3e0de7485956c5207a731bbfea1437528d9f0398e5e8", func := "billing/billinglaw32.CounterGets", spec := "counterGets", unfollowed := true, recurses := true, apart := false }
def CounterGetsSaid : Prop := counterGetsRow.holds Try.pinned (OpenSpec.ofChange counterGetsSpec)

/-- ITS FALSE NEIGHBOUR: 'it returns false'. Refute it at one input. -/
def counterGetsWrong : ChangeSpec := { name := "counterGets", fn := fun _ => fun
  | [d1, d2, d3] => { results := [.lit (.bool false)], args := [d1, d2, d3] }
  | _ => none }
def CounterGetsWrongFalsely : Prop := counterGetsRow.holds Try.pinned (OpenSpec.ofChange counterGetsWrong)

/-- 'billinglaw32.CounterAdds': WHATEVER THE INPUT: true; the input reads as it did. -/
def counterAddsSpec : ChangeSpec := { name := "counterAdds", fn := fun _ => fun
  | [d1, d2] => { results := [.lit (.bool true)], args := [d1, d2] }
  | _ => none }
def counterAddsRow : OpenClaim := { program := "ytkoecjhljfmkfaa", sum := "372e5432c999ecb0868f3e0de7485956c5207a731bbfea1437528d9f0398e5e8", func := "billing/billinglaw32.CounterAdds", spec := "counterAdds", unfollowed := true, recurses := true, apart := false }
def CounterAddsSaid : Prop := counterAddsRow.holds Try.pinned (OpenSpec.ofChange counterAddsSpec)

/-- ITS FALSE NEIGHBOUR: 'it returns false'. Refute it at one input. -/
def counterAddsWrong : ChangeSpec := { name := "counterAdds", fn := fun _ => fun
  | [d1, d2] => { results := [.lit (.bool false)], args := [d1, d2] }
  | _ => none }
def CounterAddsWrongFalsely : Prop := counterAddsRow.holds Try.pinned (OpenSpec.ofChange counterAddsWrong)

/-- 'billinglaw32.CounterOne': WHATEVER THE INPUT: true; the input reads as it did. -/
def counterOneSpec : ChangeSpec := { name := "counterOne", fn := fun _ => fun
  | [d1, d2, d3] => { results := [.lit (.bool true)], args := [d1, d2, d3] }
  | _ => none }
def counterOneRow : OpenClaim := { program := "ytkoecjhljfmkfaa", sum := "372e5432c999ecb0868f3e0de7485956c5207a731bbfea1437528d9f0398e5e8", func := "billing/billinglaw32.CounterOne", spec := "counterOne", unfollowed := true, recurses := true, apart := false }
def CounterOneSaid : Prop := counterOneRow.holds Try.pinned (OpenSpec.ofChange counterOneSpec)

/-- ITS FALSE NEIGHBOUR: 'it returns false'. Refute it at one input. -/
def counterOneWrong : ChangeSpec := { name := "counterOne", fn := fun _ => fun
  | [d1, d2, d3] => { results := [.lit (.bool false)], args := [d1, d2, d3] }
  | _ => none }
def CounterOneWrongFalsely : Prop := counterOneRow.holds Try.pinned (OpenSpec.ofChange counterOneWrong)

/-- 'billinglaw32.CounterOrder': WHATEVER THE INPUT: true; the input reads as it did. -/
def counterOrderSpec : ChangeSpec := { name := "counterOrder", fn := fun _ => fun
  | [d1, d2] => { results := [.lit (.bool true)], args := [d1, d2] }
  | _ => none }
def counterOrderRow : OpenClaim := { program := "ytkoecjhljfmkfaa", sum := "372e5432c999ecb0868f3e0de7485956c5207a731bbfea1437528d9f0398e5e8", func := "billing/billinglaw32.CounterOrder", spec := "counterOrder", unfollowed := true, recurses := true, apart := false }
def CounterOrderSaid : Prop := counterOrderRow.holds Try.pinned (OpenSpec.ofChange counterOrderSpec)

/-- ITS FALSE NEIGHBOUR: 'it returns false'. Refute it at one input. -/
def counterOrderWrong : ChangeSpec := { name := "counterOrder", fn := fun _ => fun
  | [d1, d2] => { results := [.lit (.bool false)], args := [d1, d2] }
  | _ => none }
def CounterOrderWrongFalsely : Prop := counterOrderRow.holds Try.pinned (OpenSpec.ofChange counterOrderWrong)

/-- 'billinglaw32.CounterTotals': WHATEVER THE INPUT: true; the input reads as it did. -/
def counterTotalsSpec : ChangeSpec := { name := "counterTotals", fn := fun _ => fun
  | [d] => { results := [.lit (.bool true)], args := [d] }
  | _ => none }
def counterTotalsRow : OpenClaim := { program := "ytkoecjhljfmkfaa", sum := "372e5432c999ecb0868f3e0de7485956c5207a731bbfea1437528d9f0398e5e8", func := "billing/billinglaw32.CounterTotals", spec := "counterTotals", unfollowed := true, recurses := true, apart := false }
def CounterTotalsSaid : Prop := counterTotalsRow.holds Try.pinned (OpenSpec.ofChange counterTotalsSpec)

/-- ITS FALSE NEIGHBOUR: 'it returns false'. Refute it at one input. -/
def counterTotalsWrong : ChangeSpec := { name := "counterTotals", fn := fun _ => fun
  | [d] => { results := [.lit (.bool false)], args := [d] }
  | _ => none }
def CounterTotalsWrongFalsely : Prop := counterTotalsRow.holds Try.pinned (OpenSpec.ofChange counterTotalsWrong)

/- THE SECOND FORM. 'bulk': how many values and letters a reading holds, each counted each time it is reached (what is shared counts as often as it is met; a slice's spare places count too). A statement '..UptoSaid' is the law's where the arguments, and the package variables that the reading takes, are together of bulk at most 1048576: NARROWER than '..Said'. Prove '..Said' where nothing that the law and all that it calls make is longer than what came in: it says more and counts as full. Else prove '..UptoSaid'. A law counts once. -/
mutual
def uptoBulk {H : Type} : DataW H → Nat
  | .lit (.string bytes) => bytes.length + 1
  | .lit _ => 1
  | .nil => 1
  | .ptr d => uptoBulk d + 1
  | .slice elems spare => uptoBulkAll elems + uptoBulkAll spare + 1
  | .agg parts => uptoBulkAll parts + 1
  | .iface _ d => uptoBulk d + 1
  | .map entries => uptoBulkEntries entries + 1
  | .held _ => 1
def uptoBulkAll {H : Type} : List (DataW H) → Nat
  | [] => 0
  | d :: r => uptoBulk d + uptoBulkAll r
def uptoBulkEntries {H : Type} : List (Lit × DataW H) → Nat
  | [] => 0
  | x :: r => uptoBulkEntry x + uptoBulkEntries r
def uptoBulkEntry {H : Type} : Lit × DataW H → Nat
  | (.string bytes, d) => bytes.length + uptoBulk d + 1
  | (_, d) => uptoBulk d + 1
 end
def uptoSmall : (H : Type) → List (DataW H) → Bool := fun _ ds => decide (uptoBulkAll ds ≤ 1048576)
def OpenSpec.upto (s : _root_.Go.ChangeSpec) : _root_.Go.OpenSpec := { _root_.Go.OpenSpec.ofChange s with cond := some uptoSmall }

/-- 'billinglaw32.CounterChecks', WHERE WHAT IT READS IS OF BULK AT MOST 1048576: true; the input reads as it did. -/
def counterChecksUptoRow : OpenClaim := { program := "ytkoecjhljfmkfaa", sum := "372e5432c999ecb0868f3e0de7485956c5207a731bbfea1437528d9f0398e5e8", func := "billing/billinglaw32.CounterChecks", spec := "counterChecks", unfollowed := true, recurses := true, apart := false, narrowed := true }
def CounterChecksUptoSaid : Prop := counterChecksUptoRow.holds Try.pinned (OpenSpec.upto counterChecksSpec)

/-- 'billinglaw32.CounterGets', WHERE WHAT IT READS IS OF BULK AT MOST 1048576: true; the input reads as it did. -/
def counterGetsUptoRow : OpenClaim := { program := "ytkoecjhljfmkfaa", sum := "372e5432c999ecb0868f3e0de7485956c5207a731bbfea1437528d9f0398e5e8", func := "billing/billinglaw32.CounterGets", spec := "counterGets", unfollowed := true, recurses := true, apart := false, narrowed := true }
def CounterGetsUptoSaid : Prop := counterGetsUptoRow.holds Try.pinned (OpenSpec.upto counterGetsSpec)

/-- 'billinglaw32.CounterAdds', WHERE WHAT IT READS IS OF BULK AT MOST 1048576: true; the input reads as it did. -/
def counterAddsUptoRow : OpenClaim := { program := "ytkoecjhljfmkfaa", sum := "372e5432c999ecb0868f3e0de7485956c5207a731bbfea1437528d9f0398e5e8", func := "billing/billinglaw32.CounterAdds", spec := "counterAdds", unfollowed := true, recurses := true, apart := false, narrowed := true }
def CounterAddsUptoSaid : Prop := counterAddsUptoRow.holds Try.pinned (OpenSpec.upto counterAddsSpec)

/-- 'billinglaw32.CounterOne', WHERE WHAT IT READS IS OF BULK AT MOST 1048576: true; the input reads as it did. -/
def counterOneUptoRow : OpenClaim := { program := "ytkoecjhljfmkfaa", sum := "372e5432c999ecb0868f3e0de7485956c5207a731bbfea1437528d9f0398e5e8", func := "billing/billinglaw32.CounterOne", spec := "counterOne", unfollowed := true, recurses := true, apart := false, narrowed := true }
def CounterOneUptoSaid : Prop := counterOneUptoRow.holds Try.pinned (OpenSpec.upto counterOneSpec)

/-- 'billinglaw32.CounterOrder', WHERE WHAT IT READS IS OF BULK AT MOST 1048576: true; the input reads as it did. -/
def counterOrderUptoRow : OpenClaim := { program := "ytkoecjhljfmkfaa", sum := "372e5432c999ecb0868f3e0de7485956c5207a731bbfea1437528d9f0398e5e8", func := "billing/billinglaw32.CounterOrder", spec := "counterOrder", unfollowed := true, recurses := true, apart := false, narrowed := true }
def CounterOrderUptoSaid : Prop := counterOrderUptoRow.holds Try.pinned (OpenSpec.upto counterOrderSpec)

/-- 'billinglaw32.CounterTotals', WHERE WHAT IT READS IS OF BULK AT MOST 1048576: true; the input reads as it did. -/
def counterTotalsUptoRow : OpenClaim := { program := "ytkoecjhljfmkfaa", sum := "372e5432c999ecb0868f3e0de7485956c5207a731bbfea1437528d9f0398e5e8", func := "billing/billinglaw32.CounterTotals", spec := "counterTotals", unfollowed := true, recurses := true, apart := false, narrowed := true }
def CounterTotalsUptoSaid : Prop := counterTotalsUptoRow.holds Try.pinned (OpenSpec.upto counterTotalsSpec)

end Rows
end Go.Proofs.Ytkoecjhljfmkfaa
