/-
  No cell of these rows narrows 'for every input' (looked for: loops, veiled, ifaces, maps, wideKeys, modest, calm, conditions, laid).
  DERIVED. THE GIVEN ROWS OF THIS SEAT. 6 by the template 'for every input the law returns true; each argument reads behind the call as it read before'; 0 by the template 'total and deterministic' (their statements: YtomefcngaclehaaTotals.lean).
  GIVEN WITH THE SEED: the statements are not yours to turn. If you find one false, say at which input.
  Laid BY PROGRAM, IN A SANDBOX (cutbox-rows.mjs): the forced cells as the released guide's own fill.sh prints them over the translation a4b8a304a92524e9… (all of the seat's roots in one cut). By AI agents, Wed Nov 11 2026. No macro, syntax, notation, axiom, sorry.
-/
import Derived.Test.YtomefcngaclehaaChecked
import GoSem.Claim
import GoSem.ClaimJoined
import GoSem.ClaimMapViews
import Derived.JoinedTies
import Derived.KernelRfl
namespace Go.Proofs.Ytomefcngaclehaa
/- THE CELL 'sum', in the pinned program and in every row, IS THE sha256 OF THE DUMP (.gsa) THAT YtomefcngaclehaaProg.lean LOADS. Nothing in Lean hashes anything: it is a label: what it is worth is what the hold of that sum in a sandbox is worth. -/
noncomputable def Try.pinned : Pinned := { name := "ytomefcngaclehaa", sum := "a4b8a304a92524e9e5e43731871434851029cef9d4d4b9aa61ddafc2e2ab06a7", checked := Try.checked }
namespace Rows
def none {H : Type} : Left H := { results := [], args := [] }

/-- 'cenotaphlaw39.FoldTexts': WHATEVER THE INPUT: true; the input reads as it did. -/
def foldTextsSpec : ChangeSpec := { name := "foldTexts", fn := fun _ => fun
  | [d1, d2] => { results := [.lit (.bool true)], args := [d1, d2] }
  | _ => none }
def foldTextsRow : OpenClaim := { program := "ytomefcngaclehaa", sum := "a4b8a304a92524e9e5e43731871434851029cef9d4d4b9aa61ddafc2e2ab06a7", func := "cenotaph/cenotaphlaw39.FoldTexts", spec := "foldTexts", unfollowed := true, recurses := true, apart := false }
def FoldTextsSaid : Prop := foldTextsRow.holds Try.pinned (OpenSpec.ofChange foldTextsSpec)

/-- ITS FALSE NEIGHBOUR: 'it returns false'. Refute it at one input. -/
def foldTextsWrong : ChangeSpec := { name := "foldTexts", fn := fun _ => fun
  | [d1, d2] => { results := [.lit (.bool false)], args := [d1, d2] }
  | _ => none }
def FoldTextsWrongFalsely : Prop := foldTextsRow.holds Try.pinned (OpenSpec.ofChange foldTextsWrong)

/-- 'cenotaphlaw39.FoldSorts': WHATEVER THE INPUT: true; the input reads as it did. -/
def foldSortsSpec : ChangeSpec := { name := "foldSorts", fn := fun _ => fun
  | [d] => { results := [.lit (.bool true)], args := [d] }
  | _ => none }
def foldSortsRow : OpenClaim := { program := "ytomefcngaclehaa", sum := "a4b8a304a92524e9e5e43731871434851029cef9d4d4b9aa61ddafc2e2ab06a7", func := "cenotaph/cenotaphlaw39.FoldSorts", spec := "foldSorts", unfollowed := true, recurses := true, apart := false }
def FoldSortsSaid : Prop := foldSortsRow.holds Try.pinned (OpenSpec.ofChange foldSortsSpec)

/-- ITS FALSE NEIGHBOUR: 'it returns false'. Refute it at one input. -/
def foldSortsWrong : ChangeSpec := { name := "foldSorts", fn := fun _ => fun
  | [d] => { results := [.lit (.bool false)], args := [d] }
  | _ => none }
def FoldSortsWrongFalsely : Prop := foldSortsRow.holds Try.pinned (OpenSpec.ofChange foldSortsWrong)

/-- 'cenotaphlaw39.FoldOrder': WHATEVER THE INPUT: true; the input reads as it did. -/
def foldOrderSpec : ChangeSpec := { name := "foldOrder", fn := fun _ => fun
  | [d1, d2, d3] => { results := [.lit (.bool true)], args := [d1, d2, d3] }
  | _ => none }
def foldOrderRow : OpenClaim := { program := "ytomefcngaclehaa", sum := "a4b8a304a92524e9e5e43731871434851029cef9d4d4b9aa61ddafc2e2ab06a7", func := "cenotaph/cenotaphlaw39.FoldOrder", spec := "foldOrder", unfollowed := true, recurses := true, apart := false }
def FoldOrderSaid : Prop := foldOrderRow.holds Try.pinned (OpenSpec.ofChange foldOrderSpec)

/-- ITS FALSE NEIGHBOUR: 'it returns false'. Refute it at one input. -/
def foldOrderWrong : ChangeSpec := { name := "foldOrder", fn := fun _ => fun
  | [d1, d2, d3] => { results := [.lit (.bool false)], args := [d1, d2, d3] }
  | _ => none }
def FoldOrderWrongFalsely : Prop := foldOrderRow.holds Try.pinned (OpenSpec.ofChange foldOrderWrong)

/-- 'cenotaphlaw46.SpansHas': WHATEVER THE INPUT: true; the input reads as it did. -/
def spansHasSpec : ChangeSpec := { name := "spansHas", fn := fun _ => fun
  | [d1, d2] => { results := [.lit (.bool true)], args := [d1, d2] }
  | _ => none }
def spansHasRow : OpenClaim := { program := "ytomefcngaclehaa", sum := "a4b8a304a92524e9e5e43731871434851029cef9d4d4b9aa61ddafc2e2ab06a7", func := "cenotaph/cenotaphlaw46.SpansHas", spec := "spansHas", unfollowed := true, recurses := true, apart := false }
def SpansHasSaid : Prop := spansHasRow.holds Try.pinned (OpenSpec.ofChange spansHasSpec)

/-- ITS FALSE NEIGHBOUR: 'it returns false'. Refute it at one input. -/
def spansHasWrong : ChangeSpec := { name := "spansHas", fn := fun _ => fun
  | [d1, d2] => { results := [.lit (.bool false)], args := [d1, d2] }
  | _ => none }
def SpansHasWrongFalsely : Prop := spansHasRow.holds Try.pinned (OpenSpec.ofChange spansHasWrong)

/-- 'cenotaphlaw46.SpansSets': WHATEVER THE INPUT: true; the input reads as it did. -/
def spansSetsSpec : ChangeSpec := { name := "spansSets", fn := fun _ => fun
  | [d1, d2] => { results := [.lit (.bool true)], args := [d1, d2] }
  | _ => none }
def spansSetsRow : OpenClaim := { program := "ytomefcngaclehaa", sum := "a4b8a304a92524e9e5e43731871434851029cef9d4d4b9aa61ddafc2e2ab06a7", func := "cenotaph/cenotaphlaw46.SpansSets", spec := "spansSets", unfollowed := true, recurses := true, apart := false }
def SpansSetsSaid : Prop := spansSetsRow.holds Try.pinned (OpenSpec.ofChange spansSetsSpec)

/-- ITS FALSE NEIGHBOUR: 'it returns false'. Refute it at one input. -/
def spansSetsWrong : ChangeSpec := { name := "spansSets", fn := fun _ => fun
  | [d1, d2] => { results := [.lit (.bool false)], args := [d1, d2] }
  | _ => none }
def SpansSetsWrongFalsely : Prop := spansSetsRow.holds Try.pinned (OpenSpec.ofChange spansSetsWrong)

/-- 'cenotaphlaw46.SpansLaws': WHATEVER THE INPUT: true; the input reads as it did. -/
def spansLawsSpec : ChangeSpec := { name := "spansLaws", fn := fun _ => fun
  | [d1, d2, d3] => { results := [.lit (.bool true)], args := [d1, d2, d3] }
  | _ => none }
def spansLawsRow : OpenClaim := { program := "ytomefcngaclehaa", sum := "a4b8a304a92524e9e5e43731871434851029cef9d4d4b9aa61ddafc2e2ab06a7", func := "cenotaph/cenotaphlaw46.SpansLaws", spec := "spansLaws", unfollowed := true, recurses := true, apart := false }
def SpansLawsSaid : Prop := spansLawsRow.holds Try.pinned (OpenSpec.ofChange spansLawsSpec)

/-- ITS FALSE NEIGHBOUR: 'it returns false'. Refute it at one input. -/
def spansLawsWrong : ChangeSpec := { name := "spansLaws", fn := fun _ => fun
  | [d1, d2, d3] => { results := [.lit (.bool false)], args := [d1, d2, d3] }
  | _ => none }
def SpansLawsWrongFalsely : Prop := spansLawsRow.holds Try.pinned (OpenSpec.ofChange spansLawsWrong)

/- THE SECOND FORM. 'bulk': how many values and letters a reading holds, each counted each time it is reached (what is shared counts as often as it is met; a slice's spare places count too). A statement '..UptoSaid' is the law's where the arguments, and the package variables that the reading takes, are together of bulk at most 1048576: NARROWER than '..Said'. Prove '..Said' where nothing that the law and all that it calls make is longer than what came in: it says more and counts as full. Else prove '..UptoSaid'. A law counts once. -/
mutual
def uptoBulk {H : Type} : DataW H → Nat
  | .lit (.string bytes) => bytes.length + 1
  | .lit _ => 1
  | .nil => 1
  | .ptr d => uptoBulk d + 1
  | .slice elems spare => uptoBulkAll elems + uptoBulkAll spare + 1
  | .agg parts => uptoBulkAll parts + 1
  | .iface _ d => uptoBulk d + 1
  | .map entries => uptoBulkEntries entries + 1
  | .held _ => 1
def uptoBulkAll {H : Type} : List (DataW H) → Nat
  | [] => 0
  | d :: r => uptoBulk d + uptoBulkAll r
def uptoBulkEntries {H : Type} : List (Lit × DataW H) → Nat
  | [] => 0
  | x :: r => uptoBulkEntry x + uptoBulkEntries r
def uptoBulkEntry {H : Type} : Lit × DataW H → Nat
  | (.string bytes, d) => bytes.length + uptoBulk d + 1
  | (_, d) => uptoBulk d + 1
 end
def uptoSmall : (H : Type) → List (DataW H) → Bool := fun _ ds => decide (uptoBulkAll ds ≤ 1048576)
def OpenSpec.upto (s : _root_.Go.ChangeSpec) : _root_.Go.OpenSpec := { _root_.Go.OpenSpec.ofChange s with cond := some uptoSmall }

/-- 'cenotaphlaw39.FoldTexts', WHERE WHAT IT READS IS OF BULK AT MOST 1048576: true; the input reads as it did. -/
def foldTextsUptoRow : OpenClaim := { program := "ytomefcngaclehaa", sum := "a4b8a304a92524e9e5e43731871434851029cef9d4d4b9aa61ddafc2e2ab06a7", func := "cenotaph/cenotaphlaw39.FoldTexts", spec := "foldTexts", unfollowed := true, recurses := true, apart := false, narrowed := true }
def FoldTextsUptoSaid : Prop := foldTextsUptoRow.holds Try.pinned (OpenSpec.upto foldTextsSpec)

/-- 'cenotaphlaw39.FoldSorts', WHERE WHAT IT READS IS OF BULK AT MOST 1048576: true; the input reads as it did. -/
def foldSortsUptoRow : OpenClaim := { program := "ytomefcngaclehaa", sum := "a4b8a304a92524e9e5e43731871434851029cef9d4d4b9aa61ddafc2e2ab06a7", func := "cenotaph/cenotaphlaw39.FoldSorts", spec := "foldSorts", unfollowed := true, recurses := true, apart := false, narrowed := true }
def FoldSortsUptoSaid : Prop := foldSortsUptoRow.holds Try.pinned (OpenSpec.upto foldSortsSpec)

/-- 'cenotaphlaw39.FoldOrder', WHERE WHAT IT READS IS OF BULK AT MOST 1048576: true; the input reads as it did. -/
def foldOrderUptoRow : OpenClaim := { program := "ytomefcngaclehaa", sum := "a4b8a304a92524e9e5e43731871434851029cef9d4d4b9aa61ddafc2e2ab06a7", func := "cenotaph/cenotaphlaw39.FoldOrder", spec := "foldOrder", unfollowed := true, recurses := true, apart := false, narrowed := true }
def FoldOrderUptoSaid : Prop := foldOrderUptoRow.holds Try.pinned (OpenSpec.upto foldOrderSpec)

/-- 'cenotaphlaw46.SpansHas', WHERE WHAT IT READS IS OF BULK AT MOST 1048576: true; the input reads as it did. -/
def spansHasUptoRow : OpenClaim := { program := "ytomefcngaclehaa", sum := "a4b8a304a92524e9e5e43731871434851029cef9d4d4b9aa61ddafc2e2ab06a7", func := "cenotaph/cenotaphlaw46.SpansHas", spec := "spansHas", unfollowed := true, recurses := true, apart := false, narrowed := true }
def SpansHasUptoSaid : Prop := spansHasUptoRow.holds Try.pinned (OpenSpec.upto spansHasSpec)

/-- 'cenotaphlaw46.SpansSets', WHERE WHAT IT READS IS OF BULK AT MOST 1048576: true; the input reads as it did. -/
def spansSetsUptoRow : OpenClaim := { program := "ytomefcngaclehaa", sum := "a4b8a304a92524e9e5e43731871434851029cef9d4d4b9aa61ddafc2e2ab06a7", func := "cenotaph/cenotaphlaw46.SpansSets", spec := "spansSets", unfollowed := true, recurses := true, apart := false, narrowed := true }
def SpansSetsUptoSaid : Prop := spansSetsUptoRow.holds Try.pinned (OpenSpec.upto spansSetsSpec)

/-- 'cenotaphlaw46.SpansLaws', WHERE WHAT IT READS IS OF BULK AT MOST 1048576: true; the input reads as it did. -/
def spansLawsUptoRow : OpenClaim := { program := "ytomefcngaclehaa", sum := "a4b8a304a92524e9e5e43731871434851029cef9d4d4b9aa61ddafc2e2ab06a7", func := "cenotaph/cenotaphlaw46.SpansLaws", spec := "spansLaws", unfollowed := true, recurses := true, apart := false, narrowed := true }
def SpansLawsUptoSaid : Prop := spansLawsUptoRow.holds Try.pinned (OpenSpec.upto spansLawsSpec)

end Rows
end Go.Proofs.Ytomefcngaclehaa
