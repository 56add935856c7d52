/-
  NARROWER THAN 'FOR EVERY INPUT', by the rows' own cells (each row's printed sentence says how): MemPlays: laid · MutOrders: laid · MutRight: laid · MutBytes: laid · MutReads: laid · MutBack: laid · PageCuts: laid · PageBack: laid · PageReads: laid.
  DERIVED. THE GIVEN ROWS OF THIS SEAT. 9 by the template 'for every input the law returns true; each argument reads behind the call as it read before'; 0 by the template 'total and deterministic' (their statements: YthbhbechemnidaaDoorTotals.lean).
  GIVEN WITH THE SEED: the statements are not yours to turn. If you find one false, say at which input.
  Laid BY PROGRAM, IN A SANDBOX (cutbox-rows.mjs): the forced cells as the released guide's own fill.sh prints them over the translation 77d289c614d4458c… (all of the seat's roots in one cut). By AI agents, Wed Nov 11 2026. No macro, syntax, notation, axiom, sorry.
-/
import Derived.Test.YthbhbechemnidaaDoorChecked
import GoSem.PinnedTables
import GoSem.Claim
import GoSem.ClaimJoined
import GoSem.ClaimMapViews
import Derived.JoinedTies
import Derived.KernelRfl
namespace Go.Proofs.YthbhbechemnidaaDoor
/- THE CELL 'sum', in the pinned program and in every row, IS THE sha256 OF THE DUMP (.gsa) THAT YthbhbechemnidaaDoorProg.lean LOADS. Nothing in Lean hashes anything: it is a label: what it is worth is what the hold of that sum in a sandbox is worth. -/
noncomputable def Tryd.pinned : Pinned := { name := "ythbhbechemnidaadoor", sum := "77d289c614d4458ce95e7e64c4969a110776242796ee92204ac395ddb7b930f5", checked := Tryd.checked }
namespace Rows
def none {H : Type} : Left H := { results := [], args := [] }

/- WHAT THE LISTED PACKAGE-LEVEL VARIABLES READ AS WHEN THE CALL BEGINS. Each datum BY PROGRAM (the guide's laid-datum.mjs) off the statement by which the dump's own 'gosem.cut.vars' lays the variable. In a bare row this is a premise. The card (YthbhbechemnidaaDoorCards.lean) ties it to the program's text. -/
def laid_unicode_utf8_acceptRanges {H : Type} : DataW H := .agg [.agg [.lit (.int .u8 128), .lit (.int .u8 191)], .agg [.lit (.int .u8 160), .lit (.int .u8 191)], .agg [.lit (.int .u8 128), .lit (.int .u8 159)], .agg [.lit (.int .u8 144), .lit (.int .u8 191)], .agg [.lit (.int .u8 128), .lit (.int .u8 143)], .agg [.lit (.int .u8 0), .lit (.int .u8 0)], .agg [.lit (.int .u8 0), .lit (.int .u8 0)], .agg [.lit (.int .u8 0), .lit (.int .u8 0)], .agg [.lit (.int .u8 0), .lit (.int .u8 0)], .agg [.lit (.int .u8 0), .lit (.int .u8 0)], .agg [.lit (.int .u8 0), .lit (.int .u8 0)], .agg [.lit (.int .u8 0), .lit (.int .u8 0)], .agg [.lit (.int .u8 0), .lit (.int .u8 0)], .agg [.lit (.int .u8 0), .lit (.int .u8 0)], .agg [.lit (.int .u8 0), .lit (.int .u8 0)], .agg [.lit (.int .u8 0), .lit (.int .u8 0)]]
/-- One of Go's own tables, pinned by name: the form's constant. -/
def laid_unicode_utf8_first : DataW Unit := Go.Pinned.utf8First

/-- 'cenotaphlaw13.MemPlays': WHATEVER THE INPUT: true; the input reads as it did. -/
def memPlaysSpec : ChangeSpec := { name := "memPlays", fn := fun _ => fun
  | [d1, d2] => { results := [.lit (.bool true)], args := [d1, d2] }
  | _ => none }
def memPlaysRow : OpenClaim := { program := "ythbhbechemnidaadoor", sum := "77d289c614d4458ce95e7e64c4969a110776242796ee92204ac395ddb7b930f5", func := "cenotaph/cenotaphlaw13.MemPlays", spec := "memPlays", unfollowed := true, recurses := true, named := ["unicode/utf8.first", "unicode/utf8.acceptRanges"], apart := false, laid := [("unicode/utf8.acceptRanges", laid_unicode_utf8_acceptRanges), ("unicode/utf8.first", laid_unicode_utf8_first)] }
def MemPlaysSaid : Prop := memPlaysRow.holds Tryd.pinned (OpenSpec.ofChange memPlaysSpec)

/-- ITS FALSE NEIGHBOUR: 'it returns false'. Refute it at one input. -/
def memPlaysWrong : ChangeSpec := { name := "memPlays", fn := fun _ => fun
  | [d1, d2] => { results := [.lit (.bool false)], args := [d1, d2] }
  | _ => none }
def MemPlaysWrongFalsely : Prop := memPlaysRow.holds Tryd.pinned (OpenSpec.ofChange memPlaysWrong)

/-- 'cenotaphlaw07.MutOrders': WHATEVER THE INPUT: true; the input reads as it did. -/
def mutOrdersSpec : ChangeSpec := { name := "mutOrders", fn := fun _ => fun
  | [d1, d2, d3] => { results := [.lit (.bool true)], args := [d1, d2, d3] }
  | _ => none }
def mutOrdersRow : OpenClaim := { program := "ythbhbechemnidaadoor", sum := "77d289c614d4458ce95e7e64c4969a110776242796ee92204ac395ddb7b930f5", func := "cenotaph/cenotaphlaw07.MutOrders", spec := "mutOrders", unfollowed := true, recurses := true, named := ["unicode/utf8.first", "unicode/utf8.acceptRanges"], apart := false, laid := [("unicode/utf8.acceptRanges", laid_unicode_utf8_acceptRanges), ("unicode/utf8.first", laid_unicode_utf8_first)] }
def MutOrdersSaid : Prop := mutOrdersRow.holds Tryd.pinned (OpenSpec.ofChange mutOrdersSpec)

/-- ITS FALSE NEIGHBOUR: 'it returns false'. Refute it at one input. -/
def mutOrdersWrong : ChangeSpec := { name := "mutOrders", fn := fun _ => fun
  | [d1, d2, d3] => { results := [.lit (.bool false)], args := [d1, d2, d3] }
  | _ => none }
def MutOrdersWrongFalsely : Prop := mutOrdersRow.holds Tryd.pinned (OpenSpec.ofChange mutOrdersWrong)

/-- 'cenotaphlaw07.MutRight': WHATEVER THE INPUT: true; the input reads as it did. -/
def mutRightSpec : ChangeSpec := { name := "mutRight", fn := fun _ => fun
  | [d] => { results := [.lit (.bool true)], args := [d] }
  | _ => none }
def mutRightRow : OpenClaim := { program := "ythbhbechemnidaadoor", sum := "77d289c614d4458ce95e7e64c4969a110776242796ee92204ac395ddb7b930f5", func := "cenotaph/cenotaphlaw07.MutRight", spec := "mutRight", named := ["unicode/utf8.first", "unicode/utf8.acceptRanges"], apart := false, laid := [("unicode/utf8.acceptRanges", laid_unicode_utf8_acceptRanges), ("unicode/utf8.first", laid_unicode_utf8_first)] }
def MutRightSaid : Prop := mutRightRow.holds Tryd.pinned (OpenSpec.ofChange mutRightSpec)

/-- ITS FALSE NEIGHBOUR: 'it returns false'. Refute it at one input. -/
def mutRightWrong : ChangeSpec := { name := "mutRight", fn := fun _ => fun
  | [d] => { results := [.lit (.bool false)], args := [d] }
  | _ => none }
def MutRightWrongFalsely : Prop := mutRightRow.holds Tryd.pinned (OpenSpec.ofChange mutRightWrong)

/-- 'cenotaphlaw07.MutBytes': WHATEVER THE INPUT: true; the input reads as it did. -/
def mutBytesSpec : ChangeSpec := { name := "mutBytes", fn := fun _ => fun
  | [d1, d2] => { results := [.lit (.bool true)], args := [d1, d2] }
  | _ => none }
def mutBytesRow : OpenClaim := { program := "ythbhbechemnidaadoor", sum := "77d289c614d4458ce95e7e64c4969a110776242796ee92204ac395ddb7b930f5", func := "cenotaph/cenotaphlaw07.MutBytes", spec := "mutBytes", recurses := true, named := ["unicode/utf8.first", "unicode/utf8.acceptRanges"], apart := false, laid := [("unicode/utf8.acceptRanges", laid_unicode_utf8_acceptRanges), ("unicode/utf8.first", laid_unicode_utf8_first)] }
def MutBytesSaid : Prop := mutBytesRow.holds Tryd.pinned (OpenSpec.ofChange mutBytesSpec)

/-- ITS FALSE NEIGHBOUR: 'it returns false'. Refute it at one input. -/
def mutBytesWrong : ChangeSpec := { name := "mutBytes", fn := fun _ => fun
  | [d1, d2] => { results := [.lit (.bool false)], args := [d1, d2] }
  | _ => none }
def MutBytesWrongFalsely : Prop := mutBytesRow.holds Tryd.pinned (OpenSpec.ofChange mutBytesWrong)

/-- 'cenotaphlaw07.MutReads': WHATEVER THE INPUT: true; the input reads as it did. -/
def mutReadsSpec : ChangeSpec := { name := "mutReads", fn := fun _ => fun
  | [d] => { results := [.lit (.bool true)], args := [d] }
  | _ => none }
def mutReadsRow : OpenClaim := { program := "ythbhbechemnidaadoor", sum := "77d289c614d4458ce95e7e64c4969a110776242796ee92204ac395ddb7b930f5", func := "cenotaph/cenotaphlaw07.MutReads", spec := "mutReads", recurses := true, named := ["unicode/utf8.first", "unicode/utf8.acceptRanges"], apart := false, laid := [("unicode/utf8.acceptRanges", laid_unicode_utf8_acceptRanges), ("unicode/utf8.first", laid_unicode_utf8_first)] }
def MutReadsSaid : Prop := mutReadsRow.holds Tryd.pinned (OpenSpec.ofChange mutReadsSpec)

/-- ITS FALSE NEIGHBOUR: 'it returns false'. Refute it at one input. -/
def mutReadsWrong : ChangeSpec := { name := "mutReads", fn := fun _ => fun
  | [d] => { results := [.lit (.bool false)], args := [d] }
  | _ => none }
def MutReadsWrongFalsely : Prop := mutReadsRow.holds Tryd.pinned (OpenSpec.ofChange mutReadsWrong)

/-- 'cenotaphlaw07.MutBack': WHATEVER THE INPUT: true; the input reads as it did. -/
def mutBackSpec : ChangeSpec := { name := "mutBack", fn := fun _ => fun
  | [d1, d2, d3] => { results := [.lit (.bool true)], args := [d1, d2, d3] }
  | _ => none }
def mutBackRow : OpenClaim := { program := "ythbhbechemnidaadoor", sum := "77d289c614d4458ce95e7e64c4969a110776242796ee92204ac395ddb7b930f5", func := "cenotaph/cenotaphlaw07.MutBack", spec := "mutBack", named := ["unicode/utf8.first", "unicode/utf8.acceptRanges"], apart := false, laid := [("unicode/utf8.acceptRanges", laid_unicode_utf8_acceptRanges), ("unicode/utf8.first", laid_unicode_utf8_first)] }
def MutBackSaid : Prop := mutBackRow.holds Tryd.pinned (OpenSpec.ofChange mutBackSpec)

/-- ITS FALSE NEIGHBOUR: 'it returns false'. Refute it at one input. -/
def mutBackWrong : ChangeSpec := { name := "mutBack", fn := fun _ => fun
  | [d1, d2, d3] => { results := [.lit (.bool false)], args := [d1, d2, d3] }
  | _ => none }
def MutBackWrongFalsely : Prop := mutBackRow.holds Tryd.pinned (OpenSpec.ofChange mutBackWrong)

/-- 'cenotaphlaw15.PageCuts': WHATEVER THE INPUT: true; the input reads as it did. -/
def pageCutsSpec : ChangeSpec := { name := "pageCuts", fn := fun _ => fun
  | [d] => { results := [.lit (.bool true)], args := [d] }
  | _ => none }
def pageCutsRow : OpenClaim := { program := "ythbhbechemnidaadoor", sum := "77d289c614d4458ce95e7e64c4969a110776242796ee92204ac395ddb7b930f5", func := "cenotaph/cenotaphlaw15.PageCuts", spec := "pageCuts", unfollowed := true, recurses := true, named := ["unicode/utf8.first", "unicode/utf8.acceptRanges"], apart := false, laid := [("unicode/utf8.acceptRanges", laid_unicode_utf8_acceptRanges), ("unicode/utf8.first", laid_unicode_utf8_first)] }
def PageCutsSaid : Prop := pageCutsRow.holds Tryd.pinned (OpenSpec.ofChange pageCutsSpec)

/-- ITS FALSE NEIGHBOUR: 'it returns false'. Refute it at one input. -/
def pageCutsWrong : ChangeSpec := { name := "pageCuts", fn := fun _ => fun
  | [d] => { results := [.lit (.bool false)], args := [d] }
  | _ => none }
def PageCutsWrongFalsely : Prop := pageCutsRow.holds Tryd.pinned (OpenSpec.ofChange pageCutsWrong)

/-- 'cenotaphlaw15.PageBack': WHATEVER THE INPUT: true; the input reads as it did. -/
def pageBackSpec : ChangeSpec := { name := "pageBack", fn := fun _ => fun
  | [d1, d2] => { results := [.lit (.bool true)], args := [d1, d2] }
  | _ => none }
def pageBackRow : OpenClaim := { program := "ythbhbechemnidaadoor", sum := "77d289c614d4458ce95e7e64c4969a110776242796ee92204ac395ddb7b930f5", func := "cenotaph/cenotaphlaw15.PageBack", spec := "pageBack", unfollowed := true, recurses := true, named := ["unicode/utf8.first", "unicode/utf8.acceptRanges"], apart := false, laid := [("unicode/utf8.acceptRanges", laid_unicode_utf8_acceptRanges), ("unicode/utf8.first", laid_unicode_utf8_first)] }
def PageBackSaid : Prop := pageBackRow.holds Tryd.pinned (OpenSpec.ofChange pageBackSpec)

/-- ITS FALSE NEIGHBOUR: 'it returns false'. Refute it at one input. -/
def pageBackWrong : ChangeSpec := { name := "pageBack", fn := fun _ => fun
  | [d1, d2] => { results := [.lit (.bool false)], args := [d1, d2] }
  | _ => none }
def PageBackWrongFalsely : Prop := pageBackRow.holds Tryd.pinned (OpenSpec.ofChange pageBackWrong)

/-- 'cenotaphlaw15.PageReads': WHATEVER THE INPUT: true; the input reads as it did. -/
def pageReadsSpec : ChangeSpec := { name := "pageReads", fn := fun _ => fun
  | [d] => { results := [.lit (.bool true)], args := [d] }
  | _ => none }
def pageReadsRow : OpenClaim := { program := "ythbhbechemnidaadoor", sum := "77d289c614d4458ce95e7e64c4969a110776242796ee92204ac395ddb7b930f5", func := "cenotaph/cenotaphlaw15.PageReads", spec := "pageReads", unfollowed := true, recurses := true, named := ["unicode/utf8.first", "unicode/utf8.acceptRanges"], apart := false, laid := [("unicode/utf8.acceptRanges", laid_unicode_utf8_acceptRanges), ("unicode/utf8.first", laid_unicode_utf8_first)] }
def PageReadsSaid : Prop := pageReadsRow.holds Tryd.pinned (OpenSpec.ofChange pageReadsSpec)

/-- ITS FALSE NEIGHBOUR: 'it returns false'. Refute it at one input. -/
def pageReadsWrong : ChangeSpec := { name := "pageReads", fn := fun _ => fun
  | [d] => { results := [.lit (.bool false)], args := [d] }
  | _ => none }
def PageReadsWrongFalsely : Prop := pageReadsRow.holds Tryd.pinned (OpenSpec.ofChange pageReadsWrong)

/- THE SECOND FORM. 'bulk': how many values and letters a reading holds, each counted each time it is reached (what is shared counts as often as it is met; a slice's spare places count too). A statement '..UptoSaid' is the law's where the arguments, and the package variables that the reading takes, are together of bulk at most 1048576: NARROWER than '..Said'. Prove '..Said' where nothing that the law and all that it calls make is longer than what came in: it says more and counts as full. Else prove '..UptoSaid'. A law counts once. -/
mutual
def uptoBulk {H : Type} : DataW H → Nat
  | .lit (.string bytes) => bytes.length + 1
  | .lit _ => 1
  | .nil => 1
  | .ptr d => uptoBulk d + 1
  | .slice elems spare => uptoBulkAll elems + uptoBulkAll spare + 1
  | .agg parts => uptoBulkAll parts + 1
  | .iface _ d => uptoBulk d + 1
  | .map entries => uptoBulkEntries entries + 1
  | .held _ => 1
def uptoBulkAll {H : Type} : List (DataW H) → Nat
  | [] => 0
  | d :: r => uptoBulk d + uptoBulkAll r
def uptoBulkEntries {H : Type} : List (Lit × DataW H) → Nat
  | [] => 0
  | x :: r => uptoBulkEntry x + uptoBulkEntries r
def uptoBulkEntry {H : Type} : Lit × DataW H → Nat
  | (.string bytes, d) => bytes.length + uptoBulk d + 1
  | (_, d) => uptoBulk d + 1
 end
def uptoSmall : (H : Type) → List (DataW H) → Bool := fun _ ds => decide (uptoBulkAll ds ≤ 1048576)
def OpenSpec.upto (s : _root_.Go.ChangeSpec) : _root_.Go.OpenSpec := { _root_.Go.OpenSpec.ofChange s with cond := some uptoSmall }

/-- 'cenotaphlaw13.MemPlays', WHERE WHAT IT READS IS OF BULK AT MOST 1048576: true; the input reads as it did. -/
def memPlaysUptoRow : OpenClaim := { program := "ythbhbechemnidaadoor", sum := "77d289c614d4458ce95e7e64c4969a110776242796ee92204ac395ddb7b930f5", func := "cenotaph/cenotaphlaw13.MemPlays", spec := "memPlays", unfollowed := true, recurses := true, named := ["unicode/utf8.first", "unicode/utf8.acceptRanges"], apart := false, laid := [("unicode/utf8.acceptRanges", laid_unicode_utf8_acceptRanges), ("unicode/utf8.first", laid_unicode_utf8_first)], narrowed := true }
def MemPlaysUptoSaid : Prop := memPlaysUptoRow.holds Tryd.pinned (OpenSpec.upto memPlaysSpec)

/-- 'cenotaphlaw07.MutOrders', WHERE WHAT IT READS IS OF BULK AT MOST 1048576: true; the input reads as it did. -/
def mutOrdersUptoRow : OpenClaim := { program := "ythbhbechemnidaadoor", sum := "77d289c614d4458ce95e7e64c4969a110776242796ee92204ac395ddb7b930f5", func := "cenotaph/cenotaphlaw07.MutOrders", spec := "mutOrders", unfollowed := true, recurses := true, named := ["unicode/utf8.first", "unicode/utf8.acceptRanges"], apart := false, laid := [("unicode/utf8.acceptRanges", laid_unicode_utf8_acceptRanges), ("unicode/utf8.first", laid_unicode_utf8_first)], narrowed := true }
def MutOrdersUptoSaid : Prop := mutOrdersUptoRow.holds Tryd.pinned (OpenSpec.upto mutOrdersSpec)

/-- 'cenotaphlaw07.MutRight', WHERE WHAT IT READS IS OF BULK AT MOST 1048576: true; the input reads as it did. -/
def mutRightUptoRow : OpenClaim := { program := "ythbhbechemnidaadoor", sum := "77d289c614d4458ce95e7e64c4969a110776242796ee92204ac395ddb7b930f5", func := "cenotaph/cenotaphlaw07.MutRight", spec := "mutRight", named := ["unicode/utf8.first", "unicode/utf8.acceptRanges"], apart := false, laid := [("unicode/utf8.acceptRanges", laid_unicode_utf8_acceptRanges), ("unicode/utf8.first", laid_unicode_utf8_first)], narrowed := true }
def MutRightUptoSaid : Prop := mutRightUptoRow.holds Tryd.pinned (OpenSpec.upto mutRightSpec)

/-- 'cenotaphlaw07.MutBytes', WHERE WHAT IT READS IS OF BULK AT MOST 1048576: true; the input reads as it did. -/
def mutBytesUptoRow : OpenClaim := { program := "ythbhbechemnidaadoor", sum := "77d289c614d4458ce95e7e64c4969a110776242796ee92204ac395ddb7b930f5", func := "cenotaph/cenotaphlaw07.MutBytes", spec := "mutBytes", recurses := true, named := ["unicode/utf8.first", "unicode/utf8.acceptRanges"], apart := false, laid := [("unicode/utf8.acceptRanges", laid_unicode_utf8_acceptRanges), ("unicode/utf8.first", laid_unicode_utf8_first)], narrowed := true }
def MutBytesUptoSaid : Prop := mutBytesUptoRow.holds Tryd.pinned (OpenSpec.upto mutBytesSpec)

/-- 'cenotaphlaw07.MutReads', WHERE WHAT IT READS IS OF BULK AT MOST 1048576: true; the input reads as it did. -/
def mutReadsUptoRow : OpenClaim := { program := "ythbhbechemnidaadoor", sum := "77d289c614d4458ce95e7e64c4969a110776242796ee92204ac395ddb7b930f5", func := "cenotaph/cenotaphlaw07.MutReads", spec := "mutReads", recurses := true, named := ["unicode/utf8.first", "unicode/utf8.acceptRanges"], apart := false, laid := [("unicode/utf8.acceptRanges", laid_unicode_utf8_acceptRanges), ("unicode/utf8.first", laid_unicode_utf8_first)], narrowed := true }
def MutReadsUptoSaid : Prop := mutReadsUptoRow.holds Tryd.pinned (OpenSpec.upto mutReadsSpec)

/-- 'cenotaphlaw07.MutBack', WHERE WHAT IT READS IS OF BULK AT MOST 1048576: true; the input reads as it did. -/
def mutBackUptoRow : OpenClaim := { program := "ythbhbechemnidaadoor", sum := "77d289c614d4458ce95e7e64c4969a110776242796ee92204ac395ddb7b930f5", func := "cenotaph/cenotaphlaw07.MutBack", spec := "mutBack", named := ["unicode/utf8.first", "unicode/utf8.acceptRanges"], apart := false, laid := [("unicode/utf8.acceptRanges", laid_unicode_utf8_acceptRanges), ("unicode/utf8.first", laid_unicode_utf8_first)], narrowed := true }
def MutBackUptoSaid : Prop := mutBackUptoRow.holds Tryd.pinned (OpenSpec.upto mutBackSpec)

/-- 'cenotaphlaw15.PageCuts', WHERE WHAT IT READS IS OF BULK AT MOST 1048576: true; the input reads as it did. -/
def pageCutsUptoRow : OpenClaim := { program := "ythbhbechemnidaadoor", sum := "77d289c614d4458ce95e7e64c4969a110776242796ee92204ac395ddb7b930f5", func := "cenotaph/cenotaphlaw15.PageCuts", spec := "pageCuts", unfollowed := true, recurses := true, named := ["unicode/utf8.first", "unicode/utf8.acceptRanges"], apart := false, laid := [("unicode/utf8.acceptRanges", laid_unicode_utf8_acceptRanges), ("unicode/utf8.first", laid_unicode_utf8_first)], narrowed := true }
def PageCutsUptoSaid : Prop := pageCutsUptoRow.holds Tryd.pinned (OpenSpec.upto pageCutsSpec)

/-- 'cenotaphlaw15.PageBack', WHERE WHAT IT READS IS OF BULK AT MOST 1048576: true; the input reads as it did. -/
def pageBackUptoRow : OpenClaim := { program := "ythbhbechemnidaadoor", sum := "77d289c614d4458ce95e7e64c4969a110776242796ee92204ac395ddb7b930f5", func := "cenotaph/cenotaphlaw15.PageBack", spec := "pageBack", unfollowed := true, recurses := true, named := ["unicode/utf8.first", "unicode/utf8.acceptRanges"], apart := false, laid := [("unicode/utf8.acceptRanges", laid_unicode_utf8_acceptRanges), ("unicode/utf8.first", laid_unicode_utf8_first)], narrowed := true }
def PageBackUptoSaid : Prop := pageBackUptoRow.holds Tryd.pinned (OpenSpec.upto pageBackSpec)

/-- 'cenotaphlaw15.PageReads', WHERE WHAT IT READS IS OF BULK AT MOST 1048576: true; the input reads as it did. -/
def pageReadsUptoRow : OpenClaim := { program := "ythbhbechemnidaadoor", sum := "77d289c614d4458ce95e7e64c4969a110776242796ee92204ac395ddb7b930f5", func := "cenotaph/cenotaphlaw15.PageReads", spec := "pageReads", unfollowed := true, recurses := true, named := ["unicode/utf8.first", "unicode/utf8.acceptRanges"], apart := false, laid := [("unicode/utf8.acceptRanges", laid_unicode_utf8_acceptRanges), ("unicode/utf8.first", laid_unicode_utf8_first)], narrowed := true }
def PageReadsUptoSaid : Prop := pageReadsUptoRow.holds Tryd.pinned (OpenSpec.upto pageReadsSpec)

end Rows
end Go.Proofs.YthbhbechemnidaaDoor
