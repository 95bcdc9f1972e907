/-
  NARROWER THAN 'FOR EVERY INPUT', by the rows' own cells (each row's printed sentence says how): PrinterBack: loops · PrinterTariffs: loops · PrinterExprs: loops · PrinterRecovers: loops.
  DERIVED. THE GIVEN ROWS OF THIS SEAT. 16 by the template 'for every input the law returns true; each argument reads behind the call as it read before'; 0 by the template 'total and deterministic' (their statements: YtcjglgeamdfpmaaTotals.lean).
  GIVEN WITH THE SEED: the statements are not yours to turn. If you find one false, say at which input.
  Laid BY PROGRAM, IN A SANDBOX (cutbox-rows.mjs): the forced cells as the released guide's own fill.sh prints them over the translation 8441205fed4ba725… (all of the seat's roots in one cut). By AI agents, Wed Nov 11 2026. No macro, syntax, notation, axiom, sorry.
-/
import Derived.Test.YtcjglgeamdfpmaaChecked
import GoSem.Claim
import GoSem.ClaimJoined
import GoSem.ClaimMapViews
import Derived.JoinedTies
import Derived.KernelRfl
namespace Go.Proofs.Ytcjglgeamdfpmaa
/- THE CELL 'sum', in the pinned program and in every row, IS THE sha256 OF THE DUMP (.gsa) THAT YtcjglgeamdfpmaaProg.lean LOADS. Nothing in Lean hashes anything: it is a label: what it is worth is what the hold of that sum in a sandbox is worth. -/
noncomputable def Try.pinned : Pinned := { name := "ytcjglgeamdfpmaa", sum := "8441205fed4ba7251e277dddee258d5c3c9760cbc884907982d976fa9ce2a022", checked := Try.checked }
namespace Rows
def none {H : Type} : Left H := { results := [], args := [] }

/-- 'billinglaw25.PrinterBack': WHATEVER THE INPUT: true; the input reads as it did. -/
def printerBackSpec : ChangeSpec := { name := "printerBack", fn := fun _ => fun
  | [d] => { results := [.lit (.bool true)], args := [d] }
  | _ => none }
def printerBackRow : OpenClaim := { program := "ytcjglgeamdfpmaa", sum := "8441205fed4ba7251e277dddee258d5c3c9760cbc884907982d976fa9ce2a022", func := "billing/billinglaw25.PrinterBack", spec := "printerBack", unfollowed := true, recurses := true, loops := true, apart := false }
def PrinterBackSaid : Prop := printerBackRow.holds Try.pinned (OpenSpec.ofChange printerBackSpec)

/-- ITS FALSE NEIGHBOUR: 'it returns false'. Refute it at one input. -/
def printerBackWrong : ChangeSpec := { name := "printerBack", fn := fun _ => fun
  | [d] => { results := [.lit (.bool false)], args := [d] }
  | _ => none }
def PrinterBackWrongFalsely : Prop := printerBackRow.holds Try.pinned (OpenSpec.ofChange printerBackWrong)

/-- 'billinglaw25.PrinterForms': WHATEVER THE INPUT: true; the input reads as it did. -/
def printerFormsSpec : ChangeSpec := { name := "printerForms", fn := fun _ => fun
  | [d] => { results := [.lit (.bool true)], args := [d] }
  | _ => none }
def printerFormsRow : OpenClaim := { program := "ytcjglgeamdfpmaa", sum := "8441205fed4ba7251e277dddee258d5c3c9760cbc884907982d976fa9ce2a022", func := "billing/billinglaw25.PrinterForms", spec := "printerForms", unfollowed := true, recurses := true, apart := false }
def PrinterFormsSaid : Prop := printerFormsRow.holds Try.pinned (OpenSpec.ofChange printerFormsSpec)

/-- ITS FALSE NEIGHBOUR: 'it returns false'. Refute it at one input. -/
def printerFormsWrong : ChangeSpec := { name := "printerForms", fn := fun _ => fun
  | [d] => { results := [.lit (.bool false)], args := [d] }
  | _ => none }
def PrinterFormsWrongFalsely : Prop := printerFormsRow.holds Try.pinned (OpenSpec.ofChange printerFormsWrong)

/-- 'billinglaw23.LexerScans': WHATEVER THE INPUT: true; the input reads as it did. -/
def lexerScansSpec : ChangeSpec := { name := "lexerScans", fn := fun _ => fun
  | [d] => { results := [.lit (.bool true)], args := [d] }
  | _ => none }
def lexerScansRow : OpenClaim := { program := "ytcjglgeamdfpmaa", sum := "8441205fed4ba7251e277dddee258d5c3c9760cbc884907982d976fa9ce2a022", func := "billing/billinglaw23.LexerScans", spec := "lexerScans", unfollowed := true, recurses := true, apart := false }
def LexerScansSaid : Prop := lexerScansRow.holds Try.pinned (OpenSpec.ofChange lexerScansSpec)

/-- ITS FALSE NEIGHBOUR: 'it returns false'. Refute it at one input. -/
def lexerScansWrong : ChangeSpec := { name := "lexerScans", fn := fun _ => fun
  | [d] => { results := [.lit (.bool false)], args := [d] }
  | _ => none }
def LexerScansWrongFalsely : Prop := lexerScansRow.holds Try.pinned (OpenSpec.ofChange lexerScansWrong)

/-- 'billinglaw23.LexerBack': WHATEVER THE INPUT: true; the input reads as it did. -/
def lexerBackSpec : ChangeSpec := { name := "lexerBack", fn := fun _ => fun
  | [d] => { results := [.lit (.bool true)], args := [d] }
  | _ => none }
def lexerBackRow : OpenClaim := { program := "ytcjglgeamdfpmaa", sum := "8441205fed4ba7251e277dddee258d5c3c9760cbc884907982d976fa9ce2a022", func := "billing/billinglaw23.LexerBack", spec := "lexerBack", unfollowed := true, recurses := true, apart := false }
def LexerBackSaid : Prop := lexerBackRow.holds Try.pinned (OpenSpec.ofChange lexerBackSpec)

/-- ITS FALSE NEIGHBOUR: 'it returns false'. Refute it at one input. -/
def lexerBackWrong : ChangeSpec := { name := "lexerBack", fn := fun _ => fun
  | [d] => { results := [.lit (.bool false)], args := [d] }
  | _ => none }
def LexerBackWrongFalsely : Prop := lexerBackRow.holds Try.pinned (OpenSpec.ofChange lexerBackWrong)

/-- 'billinglaw23.LexerJoins': WHATEVER THE INPUT: true; the input reads as it did. -/
def lexerJoinsSpec : ChangeSpec := { name := "lexerJoins", fn := fun _ => fun
  | [d1, d2] => { results := [.lit (.bool true)], args := [d1, d2] }
  | _ => none }
def lexerJoinsRow : OpenClaim := { program := "ytcjglgeamdfpmaa", sum := "8441205fed4ba7251e277dddee258d5c3c9760cbc884907982d976fa9ce2a022", func := "billing/billinglaw23.LexerJoins", spec := "lexerJoins", unfollowed := true, recurses := true, apart := false }
def LexerJoinsSaid : Prop := lexerJoinsRow.holds Try.pinned (OpenSpec.ofChange lexerJoinsSpec)

/-- ITS FALSE NEIGHBOUR: 'it returns false'. Refute it at one input. -/
def lexerJoinsWrong : ChangeSpec := { name := "lexerJoins", fn := fun _ => fun
  | [d1, d2] => { results := [.lit (.bool false)], args := [d1, d2] }
  | _ => none }
def LexerJoinsWrongFalsely : Prop := lexerJoinsRow.holds Try.pinned (OpenSpec.ofChange lexerJoinsWrong)

/-- 'billinglaw23.LexerPlaces': WHATEVER THE INPUT: true; the input reads as it did. -/
def lexerPlacesSpec : ChangeSpec := { name := "lexerPlaces", fn := fun _ => fun
  | [d] => { results := [.lit (.bool true)], args := [d] }
  | _ => none }
def lexerPlacesRow : OpenClaim := { program := "ytcjglgeamdfpmaa", sum := "8441205fed4ba7251e277dddee258d5c3c9760cbc884907982d976fa9ce2a022", func := "billing/billinglaw23.LexerPlaces", spec := "lexerPlaces", unfollowed := true, recurses := true, apart := false }
def LexerPlacesSaid : Prop := lexerPlacesRow.holds Try.pinned (OpenSpec.ofChange lexerPlacesSpec)

/-- ITS FALSE NEIGHBOUR: 'it returns false'. Refute it at one input. -/
def lexerPlacesWrong : ChangeSpec := { name := "lexerPlaces", fn := fun _ => fun
  | [d] => { results := [.lit (.bool false)], args := [d] }
  | _ => none }
def LexerPlacesWrongFalsely : Prop := lexerPlacesRow.holds Try.pinned (OpenSpec.ofChange lexerPlacesWrong)

/-- 'billinglaw23.LexerWords': WHATEVER THE INPUT: true; the input reads as it did. -/
def lexerWordsSpec : ChangeSpec := { name := "lexerWords", fn := fun _ => fun
  | [d] => { results := [.lit (.bool true)], args := [d] }
  | _ => none }
def lexerWordsRow : OpenClaim := { program := "ytcjglgeamdfpmaa", sum := "8441205fed4ba7251e277dddee258d5c3c9760cbc884907982d976fa9ce2a022", func := "billing/billinglaw23.LexerWords", spec := "lexerWords", unfollowed := true, recurses := true, apart := false }
def LexerWordsSaid : Prop := lexerWordsRow.holds Try.pinned (OpenSpec.ofChange lexerWordsSpec)

/-- ITS FALSE NEIGHBOUR: 'it returns false'. Refute it at one input. -/
def lexerWordsWrong : ChangeSpec := { name := "lexerWords", fn := fun _ => fun
  | [d] => { results := [.lit (.bool false)], args := [d] }
  | _ => none }
def LexerWordsWrongFalsely : Prop := lexerWordsRow.holds Try.pinned (OpenSpec.ofChange lexerWordsWrong)

/-- 'billinglaw23.LexerLimits': WHATEVER THE INPUT: true; the input reads as it did. -/
def lexerLimitsSpec : ChangeSpec := { name := "lexerLimits", fn := fun _ => fun
  | [d1, d2] => { results := [.lit (.bool true)], args := [d1, d2] }
  | _ => none }
def lexerLimitsRow : OpenClaim := { program := "ytcjglgeamdfpmaa", sum := "8441205fed4ba7251e277dddee258d5c3c9760cbc884907982d976fa9ce2a022", func := "billing/billinglaw23.LexerLimits", spec := "lexerLimits", unfollowed := true, recurses := true, apart := false }
def LexerLimitsSaid : Prop := lexerLimitsRow.holds Try.pinned (OpenSpec.ofChange lexerLimitsSpec)

/-- ITS FALSE NEIGHBOUR: 'it returns false'. Refute it at one input. -/
def lexerLimitsWrong : ChangeSpec := { name := "lexerLimits", fn := fun _ => fun
  | [d1, d2] => { results := [.lit (.bool false)], args := [d1, d2] }
  | _ => none }
def LexerLimitsWrongFalsely : Prop := lexerLimitsRow.holds Try.pinned (OpenSpec.ofChange lexerLimitsWrong)

/-- 'billinglaw25.PrinterTariffs': WHATEVER THE INPUT: true; the input reads as it did. -/
def printerTariffsSpec : ChangeSpec := { name := "printerTariffs", fn := fun _ => fun
  | [d] => { results := [.lit (.bool true)], args := [d] }
  | _ => none }
def printerTariffsRow : OpenClaim := { program := "ytcjglgeamdfpmaa", sum := "8441205fed4ba7251e277dddee258d5c3c9760cbc884907982d976fa9ce2a022", func := "billing/billinglaw25.PrinterTariffs", spec := "printerTariffs", recurses := true, loops := true, apart := false }
def PrinterTariffsSaid : Prop := printerTariffsRow.holds Try.pinned (OpenSpec.ofChange printerTariffsSpec)

/-- ITS FALSE NEIGHBOUR: 'it returns false'. Refute it at one input. -/
def printerTariffsWrong : ChangeSpec := { name := "printerTariffs", fn := fun _ => fun
  | [d] => { results := [.lit (.bool false)], args := [d] }
  | _ => none }
def PrinterTariffsWrongFalsely : Prop := printerTariffsRow.holds Try.pinned (OpenSpec.ofChange printerTariffsWrong)

/-- 'billinglaw25.PrinterExprs': WHATEVER THE INPUT: true; the input reads as it did. -/
def printerExprsSpec : ChangeSpec := { name := "printerExprs", fn := fun _ => fun
  | [d] => { results := [.lit (.bool true)], args := [d] }
  | _ => none }
def printerExprsRow : OpenClaim := { program := "ytcjglgeamdfpmaa", sum := "8441205fed4ba7251e277dddee258d5c3c9760cbc884907982d976fa9ce2a022", func := "billing/billinglaw25.PrinterExprs", spec := "printerExprs", recurses := true, loops := true, apart := false }
def PrinterExprsSaid : Prop := printerExprsRow.holds Try.pinned (OpenSpec.ofChange printerExprsSpec)

/-- ITS FALSE NEIGHBOUR: 'it returns false'. Refute it at one input. -/
def printerExprsWrong : ChangeSpec := { name := "printerExprs", fn := fun _ => fun
  | [d] => { results := [.lit (.bool false)], args := [d] }
  | _ => none }
def PrinterExprsWrongFalsely : Prop := printerExprsRow.holds Try.pinned (OpenSpec.ofChange printerExprsWrong)

/-- 'billinglaw24.ParserExprs': WHATEVER THE INPUT: true; the input reads as it did. -/
def parserExprsSpec : ChangeSpec := { name := "parserExprs", fn := fun _ => fun
  | [d] => { results := [.lit (.bool true)], args := [d] }
  | _ => none }
def parserExprsRow : OpenClaim := { program := "ytcjglgeamdfpmaa", sum := "8441205fed4ba7251e277dddee258d5c3c9760cbc884907982d976fa9ce2a022", func := "billing/billinglaw24.ParserExprs", spec := "parserExprs", unfollowed := true, recurses := true, apart := false }
def ParserExprsSaid : Prop := parserExprsRow.holds Try.pinned (OpenSpec.ofChange parserExprsSpec)

/-- ITS FALSE NEIGHBOUR: 'it returns false'. Refute it at one input. -/
def parserExprsWrong : ChangeSpec := { name := "parserExprs", fn := fun _ => fun
  | [d] => { results := [.lit (.bool false)], args := [d] }
  | _ => none }
def ParserExprsWrongFalsely : Prop := parserExprsRow.holds Try.pinned (OpenSpec.ofChange parserExprsWrong)

/-- 'billinglaw24.ParserBlanks': WHATEVER THE INPUT: true; the input reads as it did. -/
def parserBlanksSpec : ChangeSpec := { name := "parserBlanks", fn := fun _ => fun
  | [d1, d2] => { results := [.lit (.bool true)], args := [d1, d2] }
  | _ => none }
def parserBlanksRow : OpenClaim := { program := "ytcjglgeamdfpmaa", sum := "8441205fed4ba7251e277dddee258d5c3c9760cbc884907982d976fa9ce2a022", func := "billing/billinglaw24.ParserBlanks", spec := "parserBlanks", unfollowed := true, recurses := true, apart := false }
def ParserBlanksSaid : Prop := parserBlanksRow.holds Try.pinned (OpenSpec.ofChange parserBlanksSpec)

/-- ITS FALSE NEIGHBOUR: 'it returns false'. Refute it at one input. -/
def parserBlanksWrong : ChangeSpec := { name := "parserBlanks", fn := fun _ => fun
  | [d1, d2] => { results := [.lit (.bool false)], args := [d1, d2] }
  | _ => none }
def ParserBlanksWrongFalsely : Prop := parserBlanksRow.holds Try.pinned (OpenSpec.ofChange parserBlanksWrong)

/-- 'billinglaw24.ParserParens': WHATEVER THE INPUT: true; the input reads as it did. -/
def parserParensSpec : ChangeSpec := { name := "parserParens", fn := fun _ => fun
  | [d] => { results := [.lit (.bool true)], args := [d] }
  | _ => none }
def parserParensRow : OpenClaim := { program := "ytcjglgeamdfpmaa", sum := "8441205fed4ba7251e277dddee258d5c3c9760cbc884907982d976fa9ce2a022", func := "billing/billinglaw24.ParserParens", spec := "parserParens", unfollowed := true, recurses := true, apart := false }
def ParserParensSaid : Prop := parserParensRow.holds Try.pinned (OpenSpec.ofChange parserParensSpec)

/-- ITS FALSE NEIGHBOUR: 'it returns false'. Refute it at one input. -/
def parserParensWrong : ChangeSpec := { name := "parserParens", fn := fun _ => fun
  | [d] => { results := [.lit (.bool false)], args := [d] }
  | _ => none }
def ParserParensWrongFalsely : Prop := parserParensRow.holds Try.pinned (OpenSpec.ofChange parserParensWrong)

/-- 'billinglaw24.ParserStrength': WHATEVER THE INPUT: true; the input reads as it did. -/
def parserStrengthSpec : ChangeSpec := { name := "parserStrength", fn := fun _ => fun
  | [d1, d2] => { results := [.lit (.bool true)], args := [d1, d2] }
  | _ => none }
def parserStrengthRow : OpenClaim := { program := "ytcjglgeamdfpmaa", sum := "8441205fed4ba7251e277dddee258d5c3c9760cbc884907982d976fa9ce2a022", func := "billing/billinglaw24.ParserStrength", spec := "parserStrength", unfollowed := true, recurses := true, apart := false }
def ParserStrengthSaid : Prop := parserStrengthRow.holds Try.pinned (OpenSpec.ofChange parserStrengthSpec)

/-- ITS FALSE NEIGHBOUR: 'it returns false'. Refute it at one input. -/
def parserStrengthWrong : ChangeSpec := { name := "parserStrength", fn := fun _ => fun
  | [d1, d2] => { results := [.lit (.bool false)], args := [d1, d2] }
  | _ => none }
def ParserStrengthWrongFalsely : Prop := parserStrengthRow.holds Try.pinned (OpenSpec.ofChange parserStrengthWrong)

/-- 'billinglaw25.PrinterRecovers': WHATEVER THE INPUT: true; the input reads as it did. -/
def printerRecoversSpec : ChangeSpec := { name := "printerRecovers", fn := fun _ => fun
  | [d] => { results := [.lit (.bool true)], args := [d] }
  | _ => none }
def printerRecoversRow : OpenClaim := { program := "ytcjglgeamdfpmaa", sum := "8441205fed4ba7251e277dddee258d5c3c9760cbc884907982d976fa9ce2a022", func := "billing/billinglaw25.PrinterRecovers", spec := "printerRecovers", unfollowed := true, recurses := true, loops := true, apart := false }
def PrinterRecoversSaid : Prop := printerRecoversRow.holds Try.pinned (OpenSpec.ofChange printerRecoversSpec)

/-- ITS FALSE NEIGHBOUR: 'it returns false'. Refute it at one input. -/
def printerRecoversWrong : ChangeSpec := { name := "printerRecovers", fn := fun _ => fun
  | [d] => { results := [.lit (.bool false)], args := [d] }
  | _ => none }
def PrinterRecoversWrongFalsely : Prop := printerRecoversRow.holds Try.pinned (OpenSpec.ofChange printerRecoversWrong)

/-- 'billinglaw25.PrinterSparse': WHATEVER THE INPUT: true; the input reads as it did. -/
def printerSparseSpec : ChangeSpec := { name := "printerSparse", fn := fun _ => fun
  | [d] => { results := [.lit (.bool true)], args := [d] }
  | _ => none }
def printerSparseRow : OpenClaim := { program := "ytcjglgeamdfpmaa", sum := "8441205fed4ba7251e277dddee258d5c3c9760cbc884907982d976fa9ce2a022", func := "billing/billinglaw25.PrinterSparse", spec := "printerSparse", unfollowed := true, recurses := true, apart := false }
def PrinterSparseSaid : Prop := printerSparseRow.holds Try.pinned (OpenSpec.ofChange printerSparseSpec)

/-- ITS FALSE NEIGHBOUR: 'it returns false'. Refute it at one input. -/
def printerSparseWrong : ChangeSpec := { name := "printerSparse", fn := fun _ => fun
  | [d] => { results := [.lit (.bool false)], args := [d] }
  | _ => none }
def PrinterSparseWrongFalsely : Prop := printerSparseRow.holds Try.pinned (OpenSpec.ofChange printerSparseWrong)

/- THE SECOND FORM. 'bulk': how many values and letters a reading holds, each counted each time it is reached (what is shared counts as often as it is met; a slice's spare places count too). A statement '..UptoSaid' is the law's where the arguments, and the package variables that the reading takes, are together of bulk at most 1048576: NARROWER than '..Said'. Prove '..Said' where nothing that the law and all that it calls make is longer than what came in: it says more and counts as full. Else prove '..UptoSaid'. A law counts once. -/
mutual
def uptoBulk {H : Type} : DataW H → Nat
  | .lit (.string bytes) => bytes.length + 1
  | .lit _ => 1
  | .nil => 1
  | .ptr d => uptoBulk d + 1
  | .slice elems spare => uptoBulkAll elems + uptoBulkAll spare + 1
  | .agg parts => uptoBulkAll parts + 1
  | .iface _ d => uptoBulk d + 1
  | .map entries => uptoBulkEntries entries + 1
  | .held _ => 1
def uptoBulkAll {H : Type} : List (DataW H) → Nat
  | [] => 0
  | d :: r => uptoBulk d + uptoBulkAll r
def uptoBulkEntries {H : Type} : List (Lit × DataW H) → Nat
  | [] => 0
  | x :: r => uptoBulkEntry x + uptoBulkEntries r
def uptoBulkEntry {H : Type} : Lit × DataW H → Nat
  | (.string bytes, d) => bytes.length + uptoBulk d + 1
  | (_, d) => uptoBulk d + 1
 end
def uptoSmall : (H : Type) → List (DataW H) → Bool := fun _ ds => decide (uptoBulkAll ds ≤ 1048576)
def OpenSpec.upto (s : _root_.Go.ChangeSpec) : _root_.Go.OpenSpec := { _root_.Go.OpenSpec.ofChange s with cond := some uptoSmall }

/-- 'billinglaw25.PrinterBack', WHERE WHAT IT READS IS OF BULK AT MOST 1048576: true; the input reads as it did. -/
def printerBackUptoRow : OpenClaim := { program := "ytcjglgeamdfpmaa", sum := "8441205fed4ba7251e277dddee258d5c3c9760cbc884907982d976fa9ce2a022", func := "billing/billinglaw25.PrinterBack", spec := "printerBack", unfollowed := true, recurses := true, loops := true, apart := false, narrowed := true }
def PrinterBackUptoSaid : Prop := printerBackUptoRow.holds Try.pinned (OpenSpec.upto printerBackSpec)

/-- 'billinglaw25.PrinterForms', WHERE WHAT IT READS IS OF BULK AT MOST 1048576: true; the input reads as it did. -/
def printerFormsUptoRow : OpenClaim := { program := "ytcjglgeamdfpmaa", sum := "8441205fed4ba7251e277dddee258d5c3c9760cbc884907982d976fa9ce2a022", func := "billing/billinglaw25.PrinterForms", spec := "printerForms", unfollowed := true, recurses := true, apart := false, narrowed := true }
def PrinterFormsUptoSaid : Prop := printerFormsUptoRow.holds Try.pinned (OpenSpec.upto printerFormsSpec)

/-- 'billinglaw23.LexerScans', WHERE WHAT IT READS IS OF BULK AT MOST 1048576: true; the input reads as it did. -/
def lexerScansUptoRow : OpenClaim := { program := "ytcjglgeamdfpmaa", sum := "8441205fed4ba7251e277dddee258d5c3c9760cbc884907982d976fa9ce2a022", func := "billing/billinglaw23.LexerScans", spec := "lexerScans", unfollowed := true, recurses := true, apart := false, narrowed := true }
def LexerScansUptoSaid : Prop := lexerScansUptoRow.holds Try.pinned (OpenSpec.upto lexerScansSpec)

/-- 'billinglaw23.LexerBack', WHERE WHAT IT READS IS OF BULK AT MOST 1048576: true; the input reads as it did. -/
def lexerBackUptoRow : OpenClaim := { program := "ytcjglgeamdfpmaa", sum := "8441205fed4ba7251e277dddee258d5c3c9760cbc884907982d976fa9ce2a022", func := "billing/billinglaw23.LexerBack", spec := "lexerBack", unfollowed := true, recurses := true, apart := false, narrowed := true }
def LexerBackUptoSaid : Prop := lexerBackUptoRow.holds Try.pinned (OpenSpec.upto lexerBackSpec)

/-- 'billinglaw23.LexerJoins', WHERE WHAT IT READS IS OF BULK AT MOST 1048576: true; the input reads as it did. -/
def lexerJoinsUptoRow : OpenClaim := { program := "ytcjglgeamdfpmaa", sum := "8441205fed4ba7251e277dddee258d5c3c9760cbc884907982d976fa9ce2a022", func := "billing/billinglaw23.LexerJoins", spec := "lexerJoins", unfollowed := true, recurses := true, apart := false, narrowed := true }
def LexerJoinsUptoSaid : Prop := lexerJoinsUptoRow.holds Try.pinned (OpenSpec.upto lexerJoinsSpec)

/-- 'billinglaw23.LexerPlaces', WHERE WHAT IT READS IS OF BULK AT MOST 1048576: true; the input reads as it did. -/
def lexerPlacesUptoRow : OpenClaim := { program := "ytcjglgeamdfpmaa", sum := "8441205fed4ba7251e277dddee258d5c3c9760cbc884907982d976fa9ce2a022", func := "billing/billinglaw23.LexerPlaces", spec := "lexerPlaces", unfollowed := true, recurses := true, apart := false, narrowed := true }
def LexerPlacesUptoSaid : Prop := lexerPlacesUptoRow.holds Try.pinned (OpenSpec.upto lexerPlacesSpec)

/-- 'billinglaw23.LexerWords', WHERE WHAT IT READS IS OF BULK AT MOST 1048576: true; the input reads as it did. -/
def lexerWordsUptoRow : OpenClaim := { program := "ytcjglgeamdfpmaa", sum := "8441205fed4ba7251e277dddee258d5c3c9760cbc884907982d976fa9ce2a022", func := "billing/billinglaw23.LexerWords", spec := "lexerWords", unfollowed := true, recurses := true, apart := false, narrowed := true }
def LexerWordsUptoSaid : Prop := lexerWordsUptoRow.holds Try.pinned (OpenSpec.upto lexerWordsSpec)

/-- 'billinglaw23.LexerLimits', WHERE WHAT IT READS IS OF BULK AT MOST 1048576: true; the input reads as it did. -/
def lexerLimitsUptoRow : OpenClaim := { program := "ytcjglgeamdfpmaa", sum := "8441205fed4ba7251e277dddee258d5c3c9760cbc884907982d976fa9ce2a022", func := "billing/billinglaw23.LexerLimits", spec := "lexerLimits", unfollowed := true, recurses := true, apart := false, narrowed := true }
def LexerLimitsUptoSaid : Prop := lexerLimitsUptoRow.holds Try.pinned (OpenSpec.upto lexerLimitsSpec)

/-- 'billinglaw25.PrinterTariffs', WHERE WHAT IT READS IS OF BULK AT MOST 1048576: true; the input reads as it did. -/
def printerTariffsUptoRow : OpenClaim := { program := "ytcjglgeamdfpmaa", sum := "8441205fed4ba7251e277dddee258d5c3c9760cbc884907982d976fa9ce2a022", func := "billing/billinglaw25.PrinterTariffs", spec := "printerTariffs", recurses := true, loops := true, apart := false, narrowed := true }
def PrinterTariffsUptoSaid : Prop := printerTariffsUptoRow.holds Try.pinned (OpenSpec.upto printerTariffsSpec)

/-- 'billinglaw25.PrinterExprs', WHERE WHAT IT READS IS OF BULK AT MOST 1048576: true; the input reads as it did. -/
def printerExprsUptoRow : OpenClaim := { program := "ytcjglgeamdfpmaa", sum := "8441205fed4ba7251e277dddee258d5c3c9760cbc884907982d976fa9ce2a022", func := "billing/billinglaw25.PrinterExprs", spec := "printerExprs", recurses := true, loops := true, apart := false, narrowed := true }
def PrinterExprsUptoSaid : Prop := printerExprsUptoRow.holds Try.pinned (OpenSpec.upto printerExprsSpec)

/-- 'billinglaw24.ParserExprs', WHERE WHAT IT READS IS OF BULK AT MOST 1048576: true; the input reads as it did. -/
def parserExprsUptoRow : OpenClaim := { program := "ytcjglgeamdfpmaa", sum := "8441205fed4ba7251e277dddee258d5c3c9760cbc884907982d976fa9ce2a022", func := "billing/billinglaw24.ParserExprs", spec := "parserExprs", unfollowed := true, recurses := true, apart := false, narrowed := true }
def ParserExprsUptoSaid : Prop := parserExprsUptoRow.holds Try.pinned (OpenSpec.upto parserExprsSpec)

/-- 'billinglaw24.ParserBlanks', WHERE WHAT IT READS IS OF BULK AT MOST 1048576: true; the input reads as it did. -/
def parserBlanksUptoRow : OpenClaim := { program := "ytcjglgeamdfpmaa", sum := "8441205fed4ba7251e277dddee258d5c3c9760cbc884907982d976fa9ce2a022", func := "billing/billinglaw24.ParserBlanks", spec := "parserBlanks", unfollowed := true, recurses := true, apart := false, narrowed := true }
def ParserBlanksUptoSaid : Prop := parserBlanksUptoRow.holds Try.pinned (OpenSpec.upto parserBlanksSpec)

/-- 'billinglaw24.ParserParens', WHERE WHAT IT READS IS OF BULK AT MOST 1048576: true; the input reads as it did. -/
def parserParensUptoRow : OpenClaim := { program := "ytcjglgeamdfpmaa", sum := "8441205fed4ba7251e277dddee258d5c3c9760cbc884907982d976fa9ce2a022", func := "billing/billinglaw24.ParserParens", spec := "parserParens", unfollowed := true, recurses := true, apart := false, narrowed := true }
def ParserParensUptoSaid : Prop := parserParensUptoRow.holds Try.pinned (OpenSpec.upto parserParensSpec)

/-- 'billinglaw24.ParserStrength', WHERE WHAT IT READS IS OF BULK AT MOST 1048576: true; the input reads as it did. -/
def parserStrengthUptoRow : OpenClaim := { program := "ytcjglgeamdfpmaa", sum := "8441205fed4ba7251e277dddee258d5c3c9760cbc884907982d976fa9ce2a022", func := "billing/billinglaw24.ParserStrength", spec := "parserStrength", unfollowed := true, recurses := true, apart := false, narrowed := true }
def ParserStrengthUptoSaid : Prop := parserStrengthUptoRow.holds Try.pinned (OpenSpec.upto parserStrengthSpec)

/-- 'billinglaw25.PrinterRecovers', WHERE WHAT IT READS IS OF BULK AT MOST 1048576: true; the input reads as it did. -/
def printerRecoversUptoRow : OpenClaim := { program := "ytcjglgeamdfpmaa", sum := "8441205fed4ba7251e277dddee258d5c3c9760cbc884907982d976fa9ce2a022", func := "billing/billinglaw25.PrinterRecovers", spec := "printerRecovers", unfollowed := true, recurses := true, loops := true, apart := false, narrowed := true }
def PrinterRecoversUptoSaid : Prop := printerRecoversUptoRow.holds Try.pinned (OpenSpec.upto printerRecoversSpec)

/-- 'billinglaw25.PrinterSparse', WHERE WHAT IT READS IS OF BULK AT MOST 1048576: true; the input reads as it did. -/
def printerSparseUptoRow : OpenClaim := { program := "ytcjglgeamdfpmaa", sum := "8441205fed4ba7251e277dddee258d5c3c9760cbc884907982d976fa9ce2a022", func := "billing/billinglaw25.PrinterSparse", spec := "printerSparse", unfollowed := true, recurses := true, apart := false, narrowed := true }
def PrinterSparseUptoSaid : Prop := printerSparseUptoRow.holds Try.pinned (OpenSpec.upto printerSparseSpec)

end Rows
end Go.Proofs.Ytcjglgeamdfpmaa
