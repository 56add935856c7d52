/-
  NARROWER THAN 'FOR EVERY INPUT', by the rows' own cells (each row's printed sentence says how): RunesQuotes: laid · RunesBack: laid · GlobMatches: laid · GlobPlain: laid · GlobBegins: laid · RunesKeys: laid · MemPlays: laid.
  DERIVED. THE GIVEN ROWS OF THIS SEAT. 7 by the template 'for every input the law returns true; each argument reads behind the call as it read before'; 0 by the template 'total and deterministic' (their statements: YtedegdojbhegdaaDoorTotals.lean).
  GIVEN WITH THE SEED: the statements are not yours to turn. If you find one false, say at which input.
  Laid BY PROGRAM, IN A SANDBOX (cutbox-rows.mjs): the forced cells as the released guide's own fill.sh prints them over the translation 82afd22a6e02af35… (all of the seat's roots in one cut). By AI agents, Wed Nov 11 2026. No macro, syntax, notation, axiom, sorry.
-/
import Derived.Test.YtedegdojbhegdaaDoorChecked
import GoSem.PinnedTables
import GoSem.Claim
import GoSem.ClaimJoined
import GoSem.ClaimMapViews
import Derived.JoinedTies
import Derived.KernelRfl
namespace Go.Proofs.YtedegdojbhegdaaDoor
/- THE CELL 'sum', in the pinned program and in every row, IS THE sha256 OF THE DUMP (.gsa) THAT YtedegdojbhegdaaDoorProg.lean LOADS. Nothing in Lean hashes anything: it is a label: what it is worth is what the hold of that sum in a sandbox is worth. -/
noncomputable def Tryd.pinned : Pinned := { name := "ytedegdojbhegdaadoor", sum := "82afd22a6e02af35a061bc6c16068c9a25615a1b52e5324f5ac3ccc8c13a9a2b", checked := Tryd.checked }
namespace Rows
def none {H : Type} : Left H := { results := [], args := [] }

/- WHAT THE LISTED PACKAGE-LEVEL VARIABLES READ AS WHEN THE CALL BEGINS. Each datum BY PROGRAM (the guide's laid-datum.mjs) off the statement by which the dump's own 'gosem.cut.vars' lays the variable. In a bare row this is a premise. The card (YtedegdojbhegdaaDoorCards.lean) ties it to the program's text. -/
def laid_unicode_utf8_acceptRanges {H : Type} : DataW H := .agg [.agg [.lit (.int .u8 128), .lit (.int .u8 191)], .agg [.lit (.int .u8 160), .lit (.int .u8 191)], .agg [.lit (.int .u8 128), .lit (.int .u8 159)], .agg [.lit (.int .u8 144), .lit (.int .u8 191)], .agg [.lit (.int .u8 128), .lit (.int .u8 143)], .agg [.lit (.int .u8 0), .lit (.int .u8 0)], .agg [.lit (.int .u8 0), .lit (.int .u8 0)], .agg [.lit (.int .u8 0), .lit (.int .u8 0)], .agg [.lit (.int .u8 0), .lit (.int .u8 0)], .agg [.lit (.int .u8 0), .lit (.int .u8 0)], .agg [.lit (.int .u8 0), .lit (.int .u8 0)], .agg [.lit (.int .u8 0), .lit (.int .u8 0)], .agg [.lit (.int .u8 0), .lit (.int .u8 0)], .agg [.lit (.int .u8 0), .lit (.int .u8 0)], .agg [.lit (.int .u8 0), .lit (.int .u8 0)], .agg [.lit (.int .u8 0), .lit (.int .u8 0)]]
/-- One of Go's own tables, pinned by name: the form's constant. -/
def laid_unicode_utf8_first : DataW Unit := Go.Pinned.utf8First

/-- 'cenotaphlaw01.RunesQuotes': WHATEVER THE INPUT: true; the input reads as it did. -/
def runesQuotesSpec : ChangeSpec := { name := "runesQuotes", fn := fun _ => fun
  | [d1, d2] => { results := [.lit (.bool true)], args := [d1, d2] }
  | _ => none }
def runesQuotesRow : OpenClaim := { program := "ytedegdojbhegdaadoor", sum := "82afd22a6e02af35a061bc6c16068c9a25615a1b52e5324f5ac3ccc8c13a9a2b", func := "cenotaph/cenotaphlaw01.RunesQuotes", spec := "runesQuotes", named := ["unicode/utf8.first", "unicode/utf8.acceptRanges"], apart := false, laid := [("unicode/utf8.acceptRanges", laid_unicode_utf8_acceptRanges), ("unicode/utf8.first", laid_unicode_utf8_first)] }
def RunesQuotesSaid : Prop := runesQuotesRow.holds Tryd.pinned (OpenSpec.ofChange runesQuotesSpec)

/-- ITS FALSE NEIGHBOUR: 'it returns false'. Refute it at one input. -/
def runesQuotesWrong : ChangeSpec := { name := "runesQuotes", fn := fun _ => fun
  | [d1, d2] => { results := [.lit (.bool false)], args := [d1, d2] }
  | _ => none }
def RunesQuotesWrongFalsely : Prop := runesQuotesRow.holds Tryd.pinned (OpenSpec.ofChange runesQuotesWrong)

/-- 'cenotaphlaw01.RunesBack': WHATEVER THE INPUT: true; the input reads as it did. -/
def runesBackSpec : ChangeSpec := { name := "runesBack", fn := fun _ => fun
  | [d] => { results := [.lit (.bool true)], args := [d] }
  | _ => none }
def runesBackRow : OpenClaim := { program := "ytedegdojbhegdaadoor", sum := "82afd22a6e02af35a061bc6c16068c9a25615a1b52e5324f5ac3ccc8c13a9a2b", func := "cenotaph/cenotaphlaw01.RunesBack", spec := "runesBack", named := ["unicode/utf8.first", "unicode/utf8.acceptRanges"], apart := false, laid := [("unicode/utf8.acceptRanges", laid_unicode_utf8_acceptRanges), ("unicode/utf8.first", laid_unicode_utf8_first)] }
def RunesBackSaid : Prop := runesBackRow.holds Tryd.pinned (OpenSpec.ofChange runesBackSpec)

/-- ITS FALSE NEIGHBOUR: 'it returns false'. Refute it at one input. -/
def runesBackWrong : ChangeSpec := { name := "runesBack", fn := fun _ => fun
  | [d] => { results := [.lit (.bool false)], args := [d] }
  | _ => none }
def RunesBackWrongFalsely : Prop := runesBackRow.holds Tryd.pinned (OpenSpec.ofChange runesBackWrong)

/-- 'cenotaphlaw38.GlobMatches': WHATEVER THE INPUT: true; the input reads as it did. -/
def globMatchesSpec : ChangeSpec := { name := "globMatches", fn := fun _ => fun
  | [d1, d2] => { results := [.lit (.bool true)], args := [d1, d2] }
  | _ => none }
def globMatchesRow : OpenClaim := { program := "ytedegdojbhegdaadoor", sum := "82afd22a6e02af35a061bc6c16068c9a25615a1b52e5324f5ac3ccc8c13a9a2b", func := "cenotaph/cenotaphlaw38.GlobMatches", spec := "globMatches", named := ["unicode/utf8.first", "unicode/utf8.acceptRanges"], apart := false, laid := [("unicode/utf8.acceptRanges", laid_unicode_utf8_acceptRanges), ("unicode/utf8.first", laid_unicode_utf8_first)] }
def GlobMatchesSaid : Prop := globMatchesRow.holds Tryd.pinned (OpenSpec.ofChange globMatchesSpec)

/-- ITS FALSE NEIGHBOUR: 'it returns false'. Refute it at one input. -/
def globMatchesWrong : ChangeSpec := { name := "globMatches", fn := fun _ => fun
  | [d1, d2] => { results := [.lit (.bool false)], args := [d1, d2] }
  | _ => none }
def GlobMatchesWrongFalsely : Prop := globMatchesRow.holds Tryd.pinned (OpenSpec.ofChange globMatchesWrong)

/-- 'cenotaphlaw38.GlobPlain': WHATEVER THE INPUT: true; the input reads as it did. -/
def globPlainSpec : ChangeSpec := { name := "globPlain", fn := fun _ => fun
  | [d] => { results := [.lit (.bool true)], args := [d] }
  | _ => none }
def globPlainRow : OpenClaim := { program := "ytedegdojbhegdaadoor", sum := "82afd22a6e02af35a061bc6c16068c9a25615a1b52e5324f5ac3ccc8c13a9a2b", func := "cenotaph/cenotaphlaw38.GlobPlain", spec := "globPlain", named := ["unicode/utf8.first", "unicode/utf8.acceptRanges"], apart := false, laid := [("unicode/utf8.acceptRanges", laid_unicode_utf8_acceptRanges), ("unicode/utf8.first", laid_unicode_utf8_first)] }
def GlobPlainSaid : Prop := globPlainRow.holds Tryd.pinned (OpenSpec.ofChange globPlainSpec)

/-- ITS FALSE NEIGHBOUR: 'it returns false'. Refute it at one input. -/
def globPlainWrong : ChangeSpec := { name := "globPlain", fn := fun _ => fun
  | [d] => { results := [.lit (.bool false)], args := [d] }
  | _ => none }
def GlobPlainWrongFalsely : Prop := globPlainRow.holds Tryd.pinned (OpenSpec.ofChange globPlainWrong)

/-- 'cenotaphlaw38.GlobBegins': WHATEVER THE INPUT: true; the input reads as it did. -/
def globBeginsSpec : ChangeSpec := { name := "globBegins", fn := fun _ => fun
  | [d1, d2] => { results := [.lit (.bool true)], args := [d1, d2] }
  | _ => none }
def globBeginsRow : OpenClaim := { program := "ytedegdojbhegdaadoor", sum := "82afd22a6e02af35a061bc6c16068c9a25615a1b52e5324f5ac3ccc8c13a9a2b", func := "cenotaph/cenotaphlaw38.GlobBegins", spec := "globBegins", named := ["unicode/utf8.first", "unicode/utf8.acceptRanges"], apart := false, laid := [("unicode/utf8.acceptRanges", laid_unicode_utf8_acceptRanges), ("unicode/utf8.first", laid_unicode_utf8_first)] }
def GlobBeginsSaid : Prop := globBeginsRow.holds Tryd.pinned (OpenSpec.ofChange globBeginsSpec)

/-- ITS FALSE NEIGHBOUR: 'it returns false'. Refute it at one input. -/
def globBeginsWrong : ChangeSpec := { name := "globBegins", fn := fun _ => fun
  | [d1, d2] => { results := [.lit (.bool false)], args := [d1, d2] }
  | _ => none }
def GlobBeginsWrongFalsely : Prop := globBeginsRow.holds Tryd.pinned (OpenSpec.ofChange globBeginsWrong)

/-- 'cenotaphlaw01.RunesKeys': WHATEVER THE INPUT: true; the input reads as it did. -/
def runesKeysSpec : ChangeSpec := { name := "runesKeys", fn := fun _ => fun
  | [d] => { results := [.lit (.bool true)], args := [d] }
  | _ => none }
def runesKeysRow : OpenClaim := { program := "ytedegdojbhegdaadoor", sum := "82afd22a6e02af35a061bc6c16068c9a25615a1b52e5324f5ac3ccc8c13a9a2b", func := "cenotaph/cenotaphlaw01.RunesKeys", spec := "runesKeys", named := ["unicode/utf8.first", "unicode/utf8.acceptRanges"], apart := false, laid := [("unicode/utf8.acceptRanges", laid_unicode_utf8_acceptRanges), ("unicode/utf8.first", laid_unicode_utf8_first)] }
def RunesKeysSaid : Prop := runesKeysRow.holds Tryd.pinned (OpenSpec.ofChange runesKeysSpec)

/-- ITS FALSE NEIGHBOUR: 'it returns false'. Refute it at one input. -/
def runesKeysWrong : ChangeSpec := { name := "runesKeys", fn := fun _ => fun
  | [d] => { results := [.lit (.bool false)], args := [d] }
  | _ => none }
def RunesKeysWrongFalsely : Prop := runesKeysRow.holds Tryd.pinned (OpenSpec.ofChange runesKeysWrong)

/-- 'cenotaphlaw13.MemPlays': WHATEVER THE INPUT: true; the input reads as it did. -/
def memPlaysSpec : ChangeSpec := { name := "memPlays", fn := fun _ => fun
  | [d1, d2] => { results := [.lit (.bool true)], args := [d1, d2] }
  | _ => none }
def memPlaysRow : OpenClaim := { program := "ytedegdojbhegdaadoor", sum := "82afd22a6e02af35a061bc6c16068c9a25615a1b52e5324f5ac3ccc8c13a9a2b", func := "cenotaph/cenotaphlaw13.MemPlays", spec := "memPlays", unfollowed := true, recurses := true, named := ["unicode/utf8.first", "unicode/utf8.acceptRanges"], apart := false, laid := [("unicode/utf8.acceptRanges", laid_unicode_utf8_acceptRanges), ("unicode/utf8.first", laid_unicode_utf8_first)] }
def MemPlaysSaid : Prop := memPlaysRow.holds Tryd.pinned (OpenSpec.ofChange memPlaysSpec)

/-- ITS FALSE NEIGHBOUR: 'it returns false'. Refute it at one input. -/
def memPlaysWrong : ChangeSpec := { name := "memPlays", fn := fun _ => fun
  | [d1, d2] => { results := [.lit (.bool false)], args := [d1, d2] }
  | _ => none }
def MemPlaysWrongFalsely : Prop := memPlaysRow.holds Tryd.pinned (OpenSpec.ofChange memPlaysWrong)

/- THE SECOND FORM. 'bulk': how many values and letters a reading holds, each counted each time it is reached (what is shared counts as often as it is met; a slice's spare places count too). A statement '..UptoSaid' is the law's where the arguments, and the package variables that the reading takes, are together of bulk at most 1048576: NARROWER than '..Said'. Prove '..Said' where nothing that the law and all that it calls make is longer than what came in: it says more and counts as full. Else prove '..UptoSaid'. A law counts once. -/
mutual
def uptoBulk {H : Type} : DataW H → Nat
  | .lit (.string bytes) => bytes.length + 1
  | .lit _ => 1
  | .nil => 1
  | .ptr d => uptoBulk d + 1
  | .slice elems spare => uptoBulkAll elems + uptoBulkAll spare + 1
  | .agg parts => uptoBulkAll parts + 1
  | .iface _ d => uptoBulk d + 1
  | .map entries => uptoBulkEntries entries + 1
  | .held _ => 1
def uptoBulkAll {H : Type} : List (DataW H) → Nat
  | [] => 0
  | d :: r => uptoBulk d + uptoBulkAll r
def uptoBulkEntries {H : Type} : List (Lit × DataW H) → Nat
  | [] => 0
  | x :: r => uptoBulkEntry x + uptoBulkEntries r
def uptoBulkEntry {H : Type} : Lit × DataW H → Nat
  | (.string bytes, d) => bytes.length + uptoBulk d + 1
  | (_, d) => uptoBulk d + 1
 end
def uptoSmall : (H : Type) → List (DataW H) → Bool := fun _ ds => decide (uptoBulkAll ds ≤ 1048576)
def OpenSpec.upto (s : _root_.Go.ChangeSpec) : _root_.Go.OpenSpec := { _root_.Go.OpenSpec.ofChange s with cond := some uptoSmall }

/-- 'cenotaphlaw01.RunesQuotes', WHERE WHAT IT READS IS OF BULK AT MOST 1048576: true; the input reads as it did. -/
def runesQuotesUptoRow : OpenClaim := { program := "ytedegdojbhegdaadoor", sum := "82afd22a6e02af35a061bc6c16068c9a25615a1b52e5324f5ac3ccc8c13a9a2b", func := "cenotaph/cenotaphlaw01.RunesQuotes", spec := "runesQuotes", named := ["unicode/utf8.first", "unicode/utf8.acceptRanges"], apart := false, laid := [("unicode/utf8.acceptRanges", laid_unicode_utf8_acceptRanges), ("unicode/utf8.first", laid_unicode_utf8_first)], narrowed := true }
def RunesQuotesUptoSaid : Prop := runesQuotesUptoRow.holds Tryd.pinned (OpenSpec.upto runesQuotesSpec)

/-- 'cenotaphlaw01.RunesBack', WHERE WHAT IT READS IS OF BULK AT MOST 1048576: true; the input reads as it did. -/
def runesBackUptoRow : OpenClaim := { program := "ytedegdojbhegdaadoor", sum := "82afd22a6e02af35a061bc6c16068c9a25615a1b52e5324f5ac3ccc8c13a9a2b", func := "cenotaph/cenotaphlaw01.RunesBack", spec := "runesBack", named := ["unicode/utf8.first", "unicode/utf8.acceptRanges"], apart := false, laid := [("unicode/utf8.acceptRanges", laid_unicode_utf8_acceptRanges), ("unicode/utf8.first", laid_unicode_utf8_first)], narrowed := true }
def RunesBackUptoSaid : Prop := runesBackUptoRow.holds Tryd.pinned (OpenSpec.upto runesBackSpec)

/-- 'cenotaphlaw38.GlobMatches', WHERE WHAT IT READS IS OF BULK AT MOST 1048576: true; the input reads as it did. -/
def globMatchesUptoRow : OpenClaim := { program := "ytedegdojbhegdaadoor", sum := "82afd22a6e02af35a061bc6c16068c9a25615a1b52e5324f5ac3ccc8c13a9a2b", func := "cenotaph/cenotaphlaw38.GlobMatches", spec := "globMatches", named := ["unicode/utf8.first", "unicode/utf8.acceptRanges"], apart := false, laid := [("unicode/utf8.acceptRanges", laid_unicode_utf8_acceptRanges), ("unicode/utf8.first", laid_unicode_utf8_first)], narrowed := true }
def GlobMatchesUptoSaid : Prop := globMatchesUptoRow.holds Tryd.pinned (OpenSpec.upto globMatchesSpec)

/-- 'cenotaphlaw38.GlobPlain', WHERE WHAT IT READS IS OF BULK AT MOST 1048576: true; the input reads as it did. -/
def globPlainUptoRow : OpenClaim := { program := "ytedegdojbhegdaadoor", sum := "82afd22a6e02af35a061bc6c16068c9a25615a1b52e5324f5ac3ccc8c13a9a2b", func := "cenotaph/cenotaphlaw38.GlobPlain", spec := "globPlain", named := ["unicode/utf8.first", "unicode/utf8.acceptRanges"], apart := false, laid := [("unicode/utf8.acceptRanges", laid_unicode_utf8_acceptRanges), ("unicode/utf8.first", laid_unicode_utf8_first)], narrowed := true }
def GlobPlainUptoSaid : Prop := globPlainUptoRow.holds Tryd.pinned (OpenSpec.upto globPlainSpec)

/-- 'cenotaphlaw38.GlobBegins', WHERE WHAT IT READS IS OF BULK AT MOST 1048576: true; the input reads as it did. -/
def globBeginsUptoRow : OpenClaim := { program := "ytedegdojbhegdaadoor", sum := "82afd22a6e02af35a061bc6c16068c9a25615a1b52e5324f5ac3ccc8c13a9a2b", func := "cenotaph/cenotaphlaw38.GlobBegins", spec := "globBegins", named := ["unicode/utf8.first", "unicode/utf8.acceptRanges"], apart := false, laid := [("unicode/utf8.acceptRanges", laid_unicode_utf8_acceptRanges), ("unicode/utf8.first", laid_unicode_utf8_first)], narrowed := true }
def GlobBeginsUptoSaid : Prop := globBeginsUptoRow.holds Tryd.pinned (OpenSpec.upto globBeginsSpec)

/-- 'cenotaphlaw01.RunesKeys', WHERE WHAT IT READS IS OF BULK AT MOST 1048576: true; the input reads as it did. -/
def runesKeysUptoRow : OpenClaim := { program := "ytedegdojbhegdaadoor", sum := "82afd22a6e02af35a061bc6c16068c9a25615a1b52e5324f5ac3ccc8c13a9a2b", func := "cenotaph/cenotaphlaw01.RunesKeys", spec := "runesKeys", named := ["unicode/utf8.first", "unicode/utf8.acceptRanges"], apart := false, laid := [("unicode/utf8.acceptRanges", laid_unicode_utf8_acceptRanges), ("unicode/utf8.first", laid_unicode_utf8_first)], narrowed := true }
def RunesKeysUptoSaid : Prop := runesKeysUptoRow.holds Tryd.pinned (OpenSpec.upto runesKeysSpec)

/-- 'cenotaphlaw13.MemPlays', WHERE WHAT IT READS IS OF BULK AT MOST 1048576: true; the input reads as it did. -/
def memPlaysUptoRow : OpenClaim := { program := "ytedegdojbhegdaadoor", sum := "82afd22a6e02af35a061bc6c16068c9a25615a1b52e5324f5ac3ccc8c13a9a2b", func := "cenotaph/cenotaphlaw13.MemPlays", spec := "memPlays", unfollowed := true, recurses := true, named := ["unicode/utf8.first", "unicode/utf8.acceptRanges"], apart := false, laid := [("unicode/utf8.acceptRanges", laid_unicode_utf8_acceptRanges), ("unicode/utf8.first", laid_unicode_utf8_first)], narrowed := true }
def MemPlaysUptoSaid : Prop := memPlaysUptoRow.holds Tryd.pinned (OpenSpec.upto memPlaysSpec)

end Rows
end Go.Proofs.YtedegdojbhegdaaDoor
