/-
  NARROWER THAN 'FOR EVERY INPUT', by the rows' own cells (each row's printed sentence says how): StepLines: laid · StepTexts: laid · StepBack: laid · StepMany: laid.
  DERIVED. THE GIVEN ROWS OF THIS SEAT. 4 by the template 'for every input the law returns true; each argument reads behind the call as it read before'; 0 by the template 'total and deterministic' (their statements: YtimmfcbpdnlfjaaDoorTotals.lean).
  GIVEN WITH THE SEED: the statements are not yours to turn. If you find one false, say at which input.
  Laid BY PROGRAM, IN A SANDBOX (cutbox-rows.mjs): the forced cells as the released guide's own fill.sh prints them over the translation f4ed6d21611a4b7f… (all of the seat's roots in one cut). By AI agents, Wed Nov 11 2026. No macro, syntax, notation, axiom, sorry.
-/
import Derived.Test.YtimmfcbpdnlfjaaDoorChecked
import GoSem.PinnedTables
import GoSem.Claim
import GoSem.ClaimJoined
import GoSem.ClaimMapViews
import Derived.JoinedTies
import Derived.KernelRfl
namespace Go.Proofs.YtimmfcbpdnlfjaaDoor
/- THE CELL 'sum', in the pinned program and in every row, IS THE sha256 OF THE DUMP (.gsa) THAT YtimmfcbpdnlfjaaDoorProg.lean LOADS. Nothing in Lean hashes anything: it is a label: what it is worth is what the hold of that sum in a sandbox is worth. -/
noncomputable def Tryd.pinned : Pinned := { name := "ytimmfcbpdnlfjaadoor", sum := "f4ed6d21611a4b7f5514797a7d7c453c65c12c35737a5c06a4a69003f8393709", checked := Tryd.checked }
namespace Rows
def none {H : Type} : Left H := { results := [], args := [] }

/- WHAT THE LISTED PACKAGE-LEVEL VARIABLES READ AS WHEN THE CALL BEGINS. Each datum BY PROGRAM (the guide's laid-datum.mjs) off the statement by which the dump's own 'gosem.cut.vars' lays the variable. In a bare row this is a premise. The card (YtimmfcbpdnlfjaaDoorCards.lean) ties it to the program's text. -/
def laid_unicode_utf8_acceptRanges {H : Type} : DataW H := .agg [.agg [.lit (.int .u8 128), .lit (.int .u8 191)], .agg [.lit (.int .u8 160), .lit (.int .u8 191)], .agg [.lit (.int .u8 128), .lit (.int .u8 159)], .agg [.lit (.int .u8 144), .lit (.int .u8 191)], .agg [.lit (.int .u8 128), .lit (.int .u8 143)], .agg [.lit (.int .u8 0), .lit (.int .u8 0)], .agg [.lit (.int .u8 0), .lit (.int .u8 0)], .agg [.lit (.int .u8 0), .lit (.int .u8 0)], .agg [.lit (.int .u8 0), .lit (.int .u8 0)], .agg [.lit (.int .u8 0), .lit (.int .u8 0)], .agg [.lit (.int .u8 0), .lit (.int .u8 0)], .agg [.lit (.int .u8 0), .lit (.int .u8 0)], .agg [.lit (.int .u8 0), .lit (.int .u8 0)], .agg [.lit (.int .u8 0), .lit (.int .u8 0)], .agg [.lit (.int .u8 0), .lit (.int .u8 0)], .agg [.lit (.int .u8 0), .lit (.int .u8 0)]]
/-- One of Go's own tables, pinned by name: the form's constant. -/
def laid_unicode_utf8_first : DataW Unit := Go.Pinned.utf8First

/-- 'cenotaphlaw40.StepLines': WHATEVER THE INPUT: true; the input reads as it did. -/
def stepLinesSpec : ChangeSpec := { name := "stepLines", fn := fun _ => fun
  | [d1, d2] => { results := [.lit (.bool true)], args := [d1, d2] }
  | _ => none }
def stepLinesRow : OpenClaim := { program := "ytimmfcbpdnlfjaadoor", sum := "f4ed6d21611a4b7f5514797a7d7c453c65c12c35737a5c06a4a69003f8393709", func := "cenotaph/cenotaphlaw40.StepLines", spec := "stepLines", unfollowed := true, recurses := true, named := ["unicode/utf8.first", "unicode/utf8.acceptRanges"], apart := false, laid := [("unicode/utf8.acceptRanges", laid_unicode_utf8_acceptRanges), ("unicode/utf8.first", laid_unicode_utf8_first)] }
def StepLinesSaid : Prop := stepLinesRow.holds Tryd.pinned (OpenSpec.ofChange stepLinesSpec)

/-- ITS FALSE NEIGHBOUR: 'it returns false'. Refute it at one input. -/
def stepLinesWrong : ChangeSpec := { name := "stepLines", fn := fun _ => fun
  | [d1, d2] => { results := [.lit (.bool false)], args := [d1, d2] }
  | _ => none }
def StepLinesWrongFalsely : Prop := stepLinesRow.holds Tryd.pinned (OpenSpec.ofChange stepLinesWrong)

/-- 'cenotaphlaw40.StepTexts': WHATEVER THE INPUT: true; the input reads as it did. -/
def stepTextsSpec : ChangeSpec := { name := "stepTexts", fn := fun _ => fun
  | [d1, d2] => { results := [.lit (.bool true)], args := [d1, d2] }
  | _ => none }
def stepTextsRow : OpenClaim := { program := "ytimmfcbpdnlfjaadoor", sum := "f4ed6d21611a4b7f5514797a7d7c453c65c12c35737a5c06a4a69003f8393709", func := "cenotaph/cenotaphlaw40.StepTexts", spec := "stepTexts", inPlace := ["internal/abi.NoEscape"], unfollowed := true, recurses := true, named := ["unicode/utf8.first", "unicode/utf8.acceptRanges"], apart := false, laid := [("unicode/utf8.acceptRanges", laid_unicode_utf8_acceptRanges), ("unicode/utf8.first", laid_unicode_utf8_first)] }
def StepTextsSaid : Prop := stepTextsRow.holds Tryd.pinned (OpenSpec.ofChange stepTextsSpec)

/-- ITS FALSE NEIGHBOUR: 'it returns false'. Refute it at one input. -/
def stepTextsWrong : ChangeSpec := { name := "stepTexts", fn := fun _ => fun
  | [d1, d2] => { results := [.lit (.bool false)], args := [d1, d2] }
  | _ => none }
def StepTextsWrongFalsely : Prop := stepTextsRow.holds Tryd.pinned (OpenSpec.ofChange stepTextsWrong)

/-- 'cenotaphlaw40.StepBack': WHATEVER THE INPUT: true; the input reads as it did. -/
def stepBackSpec : ChangeSpec := { name := "stepBack", fn := fun _ => fun
  | [d] => { results := [.lit (.bool true)], args := [d] }
  | _ => none }
def stepBackRow : OpenClaim := { program := "ytimmfcbpdnlfjaadoor", sum := "f4ed6d21611a4b7f5514797a7d7c453c65c12c35737a5c06a4a69003f8393709", func := "cenotaph/cenotaphlaw40.StepBack", spec := "stepBack", inPlace := ["internal/abi.NoEscape"], unfollowed := true, recurses := true, named := ["unicode/utf8.first", "unicode/utf8.acceptRanges"], apart := false, laid := [("unicode/utf8.acceptRanges", laid_unicode_utf8_acceptRanges), ("unicode/utf8.first", laid_unicode_utf8_first)] }
def StepBackSaid : Prop := stepBackRow.holds Tryd.pinned (OpenSpec.ofChange stepBackSpec)

/-- ITS FALSE NEIGHBOUR: 'it returns false'. Refute it at one input. -/
def stepBackWrong : ChangeSpec := { name := "stepBack", fn := fun _ => fun
  | [d] => { results := [.lit (.bool false)], args := [d] }
  | _ => none }
def StepBackWrongFalsely : Prop := stepBackRow.holds Tryd.pinned (OpenSpec.ofChange stepBackWrong)

/-- 'cenotaphlaw40.StepMany': WHATEVER THE INPUT: true; the input reads as it did. -/
def stepManySpec : ChangeSpec := { name := "stepMany", fn := fun _ => fun
  | [d1, d2] => { results := [.lit (.bool true)], args := [d1, d2] }
  | _ => none }
def stepManyRow : OpenClaim := { program := "ytimmfcbpdnlfjaadoor", sum := "f4ed6d21611a4b7f5514797a7d7c453c65c12c35737a5c06a4a69003f8393709", func := "cenotaph/cenotaphlaw40.StepMany", spec := "stepMany", inPlace := ["internal/abi.NoEscape"], unfollowed := true, recurses := true, named := ["unicode/utf8.first", "unicode/utf8.acceptRanges"], apart := false, laid := [("unicode/utf8.acceptRanges", laid_unicode_utf8_acceptRanges), ("unicode/utf8.first", laid_unicode_utf8_first)] }
def StepManySaid : Prop := stepManyRow.holds Tryd.pinned (OpenSpec.ofChange stepManySpec)

/-- ITS FALSE NEIGHBOUR: 'it returns false'. Refute it at one input. -/
def stepManyWrong : ChangeSpec := { name := "stepMany", fn := fun _ => fun
  | [d1, d2] => { results := [.lit (.bool false)], args := [d1, d2] }
  | _ => none }
def StepManyWrongFalsely : Prop := stepManyRow.holds Tryd.pinned (OpenSpec.ofChange stepManyWrong)

/- THE SECOND FORM. 'bulk': how many values and letters a reading holds, each counted each time it is reached (what is shared counts as often as it is met; a slice's spare places count too). A statement '..UptoSaid' is the law's where the arguments, and the package variables that the reading takes, are together of bulk at most 1048576: NARROWER than '..Said'. Prove '..Said' where nothing that the law and all that it calls make is longer than what came in: it says more and counts as full. Else prove '..UptoSaid'. A law counts once. -/
mutual
def uptoBulk {H : Type} : DataW H → Nat
  | .lit (.string bytes) => bytes.length + 1
  | .lit _ => 1
  | .nil => 1
  | .ptr d => uptoBulk d + 1
  | .slice elems spare => uptoBulkAll elems + uptoBulkAll spare + 1
  | .agg parts => uptoBulkAll parts + 1
  | .iface _ d => uptoBulk d + 1
  | .map entries => uptoBulkEntries entries + 1
  | .held _ => 1
def uptoBulkAll {H : Type} : List (DataW H) → Nat
  | [] => 0
  | d :: r => uptoBulk d + uptoBulkAll r
def uptoBulkEntries {H : Type} : List (Lit × DataW H) → Nat
  | [] => 0
  | x :: r => uptoBulkEntry x + uptoBulkEntries r
def uptoBulkEntry {H : Type} : Lit × DataW H → Nat
  | (.string bytes, d) => bytes.length + uptoBulk d + 1
  | (_, d) => uptoBulk d + 1
 end
def uptoSmall : (H : Type) → List (DataW H) → Bool := fun _ ds => decide (uptoBulkAll ds ≤ 1048576)
def OpenSpec.upto (s : _root_.Go.ChangeSpec) : _root_.Go.OpenSpec := { _root_.Go.OpenSpec.ofChange s with cond := some uptoSmall }

/-- 'cenotaphlaw40.StepLines', WHERE WHAT IT READS IS OF BULK AT MOST 1048576: true; the input reads as it did. -/
def stepLinesUptoRow : OpenClaim := { program := "ytimmfcbpdnlfjaadoor", sum := "f4ed6d21611a4b7f5514797a7d7c453c65c12c35737a5c06a4a69003f8393709", func := "cenotaph/cenotaphlaw40.StepLines", spec := "stepLines", unfollowed := true, recurses := true, named := ["unicode/utf8.first", "unicode/utf8.acceptRanges"], apart := false, laid := [("unicode/utf8.acceptRanges", laid_unicode_utf8_acceptRanges), ("unicode/utf8.first", laid_unicode_utf8_first)], narrowed := true }
def StepLinesUptoSaid : Prop := stepLinesUptoRow.holds Tryd.pinned (OpenSpec.upto stepLinesSpec)

/-- 'cenotaphlaw40.StepTexts', WHERE WHAT IT READS IS OF BULK AT MOST 1048576: true; the input reads as it did. -/
def stepTextsUptoRow : OpenClaim := { program := "ytimmfcbpdnlfjaadoor", sum := "f4ed6d21611a4b7f5514797a7d7c453c65c12c35737a5c06a4a69003f8393709", func := "cenotaph/cenotaphlaw40.StepTexts", spec := "stepTexts", inPlace := ["internal/abi.NoEscape"], unfollowed := true, recurses := true, named := ["unicode/utf8.first", "unicode/utf8.acceptRanges"], apart := false, laid := [("unicode/utf8.acceptRanges", laid_unicode_utf8_acceptRanges), ("unicode/utf8.first", laid_unicode_utf8_first)], narrowed := true }
def StepTextsUptoSaid : Prop := stepTextsUptoRow.holds Tryd.pinned (OpenSpec.upto stepTextsSpec)

/-- 'cenotaphlaw40.StepBack', WHERE WHAT IT READS IS OF BULK AT MOST 1048576: true; the input reads as it did. -/
def stepBackUptoRow : OpenClaim := { program := "ytimmfcbpdnlfjaadoor", sum := "f4ed6d21611a4b7f5514797a7d7c453c65c12c35737a5c06a4a69003f8393709", func := "cenotaph/cenotaphlaw40.StepBack", spec := "stepBack", inPlace := ["internal/abi.NoEscape"], unfollowed := true, recurses := true, named := ["unicode/utf8.first", "unicode/utf8.acceptRanges"], apart := false, laid := [("unicode/utf8.acceptRanges", laid_unicode_utf8_acceptRanges), ("unicode/utf8.first", laid_unicode_utf8_first)], narrowed := true }
def StepBackUptoSaid : Prop := stepBackUptoRow.holds Tryd.pinned (OpenSpec.upto stepBackSpec)

/-- 'cenotaphlaw40.StepMany', WHERE WHAT IT READS IS OF BULK AT MOST 1048576: true; the input reads as it did. -/
def stepManyUptoRow : OpenClaim := { program := "ytimmfcbpdnlfjaadoor", sum := "f4ed6d21611a4b7f5514797a7d7c453c65c12c35737a5c06a4a69003f8393709", func := "cenotaph/cenotaphlaw40.StepMany", spec := "stepMany", inPlace := ["internal/abi.NoEscape"], unfollowed := true, recurses := true, named := ["unicode/utf8.first", "unicode/utf8.acceptRanges"], apart := false, laid := [("unicode/utf8.acceptRanges", laid_unicode_utf8_acceptRanges), ("unicode/utf8.first", laid_unicode_utf8_first)], narrowed := true }
def StepManyUptoSaid : Prop := stepManyUptoRow.holds Tryd.pinned (OpenSpec.upto stepManySpec)

end Rows
end Go.Proofs.YtimmfcbpdnlfjaaDoor
