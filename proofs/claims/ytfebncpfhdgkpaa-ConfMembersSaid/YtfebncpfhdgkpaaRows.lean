/-
  No cell of these rows narrows 'for every input' (looked for: loops, veiled, ifaces, maps, wideKeys, modest, calm, conditions, laid).
  DERIVED. THE GIVEN ROWS OF THIS SEAT. 10 by the template 'for every input the law returns true; each argument reads behind the call as it read before'; 0 by the template 'total and deterministic' (their statements: YtfebncpfhdgkpaaTotals.lean).
  GIVEN WITH THE SEED: the statements are not yours to turn. If you find one false, say at which input.
  Laid BY PROGRAM, IN A SANDBOX (cutbox-rows.mjs): the forced cells as the released guide's own fill.sh prints them over the translation fa97516436fbb7fc… (all of the seat's roots in one cut). By AI agents, Wed Nov 11 2026. No macro, syntax, notation, axiom, sorry.
-/
import Derived.Test.YtfebncpfhdgkpaaChecked
import GoSem.Claim
import GoSem.ClaimJoined
import GoSem.ClaimMapViews
import Derived.JoinedTies
import Derived.KernelRfl
namespace Go.Proofs.Ytfebncpfhdgkpaa
/- THE CELL 'sum', in the pinned program and in every row, IS THE sha256 OF THE DUMP (.gsa) THAT YtfebncpfhdgkpaaProg.lean LOADS. Nothing in Lean hashes anything: it is a label: what it is worth is what the hold of that sum in a sandbox is worth. -/
noncomputable def Try.pinned : Pinned := { name := "ytfebncpfhdgkpaa", sum := "fa97516436fbb7fcda12e5c177ce617499799bb33041531205bfc0bd0bae0b9a", checked := Try.checked }
namespace Rows
def none {H : Type} : Left H := { results := [], args := [] }

/-- 'cenotaphlaw44.HistBuckets': WHATEVER THE INPUT: true; the input reads as it did. -/
def histBucketsSpec : ChangeSpec := { name := "histBuckets", fn := fun _ => fun
  | [d1, d2] => { results := [.lit (.bool true)], args := [d1, d2] }
  | _ => none }
def histBucketsRow : OpenClaim := { program := "ytfebncpfhdgkpaa", sum := "fa97516436fbb7fcda12e5c177ce617499799bb33041531205bfc0bd0bae0b9a", func := "cenotaph/cenotaphlaw44.HistBuckets", spec := "histBuckets", unfollowed := true, recurses := true, apart := false }
def HistBucketsSaid : Prop := histBucketsRow.holds Try.pinned (OpenSpec.ofChange histBucketsSpec)

/-- ITS FALSE NEIGHBOUR: 'it returns false'. Refute it at one input. -/
def histBucketsWrong : ChangeSpec := { name := "histBuckets", fn := fun _ => fun
  | [d1, d2] => { results := [.lit (.bool false)], args := [d1, d2] }
  | _ => none }
def HistBucketsWrongFalsely : Prop := histBucketsRow.holds Try.pinned (OpenSpec.ofChange histBucketsWrong)

/-- 'cenotaphlaw44.HistCounts': WHATEVER THE INPUT: true; the input reads as it did. -/
def histCountsSpec : ChangeSpec := { name := "histCounts", fn := fun _ => fun
  | [d1, d2] => { results := [.lit (.bool true)], args := [d1, d2] }
  | _ => none }
def histCountsRow : OpenClaim := { program := "ytfebncpfhdgkpaa", sum := "fa97516436fbb7fcda12e5c177ce617499799bb33041531205bfc0bd0bae0b9a", func := "cenotaph/cenotaphlaw44.HistCounts", spec := "histCounts", unfollowed := true, recurses := true, apart := false }
def HistCountsSaid : Prop := histCountsRow.holds Try.pinned (OpenSpec.ofChange histCountsSpec)

/-- ITS FALSE NEIGHBOUR: 'it returns false'. Refute it at one input. -/
def histCountsWrong : ChangeSpec := { name := "histCounts", fn := fun _ => fun
  | [d1, d2] => { results := [.lit (.bool false)], args := [d1, d2] }
  | _ => none }
def HistCountsWrongFalsely : Prop := histCountsRow.holds Try.pinned (OpenSpec.ofChange histCountsWrong)

/-- 'cenotaphlaw21.ConfMembers': WHATEVER THE INPUT: true; the input reads as it did. -/
def confMembersSpec : ChangeSpec := { name := "confMembers", fn := fun _ => fun
  | [d1, d2, d3] => { results := [.lit (.bool true)], args := [d1, d2, d3] }
  | _ => none }
def confMembersRow : OpenClaim := { program := "ytfebncpfhdgkpaa", sum := "fa97516436fbb7fcda12e5c177ce617499799bb33041531205bfc0bd0bae0b9a", func := "cenotaph/cenotaphlaw21.ConfMembers", spec := "confMembers", unfollowed := true, recurses := true, apart := false }
def ConfMembersSaid : Prop := confMembersRow.holds Try.pinned (OpenSpec.ofChange confMembersSpec)

/-- ITS FALSE NEIGHBOUR: 'it returns false'. Refute it at one input. -/
def confMembersWrong : ChangeSpec := { name := "confMembers", fn := fun _ => fun
  | [d1, d2, d3] => { results := [.lit (.bool false)], args := [d1, d2, d3] }
  | _ => none }
def ConfMembersWrongFalsely : Prop := confMembersRow.holds Try.pinned (OpenSpec.ofChange confMembersWrong)

/-- 'cenotaphlaw12.FrameCuts': WHATEVER THE INPUT: true; the input reads as it did. -/
def frameCutsSpec : ChangeSpec := { name := "frameCuts", fn := fun _ => fun
  | [d1, d2] => { results := [.lit (.bool true)], args := [d1, d2] }
  | _ => none }
def frameCutsRow : OpenClaim := { program := "ytfebncpfhdgkpaa", sum := "fa97516436fbb7fcda12e5c177ce617499799bb33041531205bfc0bd0bae0b9a", func := "cenotaph/cenotaphlaw12.FrameCuts", spec := "frameCuts", unfollowed := true, recurses := true, apart := false }
def FrameCutsSaid : Prop := frameCutsRow.holds Try.pinned (OpenSpec.ofChange frameCutsSpec)

/-- ITS FALSE NEIGHBOUR: 'it returns false'. Refute it at one input. -/
def frameCutsWrong : ChangeSpec := { name := "frameCuts", fn := fun _ => fun
  | [d1, d2] => { results := [.lit (.bool false)], args := [d1, d2] }
  | _ => none }
def FrameCutsWrongFalsely : Prop := frameCutsRow.holds Try.pinned (OpenSpec.ofChange frameCutsWrong)

/-- 'cenotaphlaw12.FrameReads': WHATEVER THE INPUT: true; the input reads as it did. -/
def frameReadsSpec : ChangeSpec := { name := "frameReads", fn := fun _ => fun
  | [d1, d2] => { results := [.lit (.bool true)], args := [d1, d2] }
  | _ => none }
def frameReadsRow : OpenClaim := { program := "ytfebncpfhdgkpaa", sum := "fa97516436fbb7fcda12e5c177ce617499799bb33041531205bfc0bd0bae0b9a", func := "cenotaph/cenotaphlaw12.FrameReads", spec := "frameReads", unfollowed := true, recurses := true, apart := false }
def FrameReadsSaid : Prop := frameReadsRow.holds Try.pinned (OpenSpec.ofChange frameReadsSpec)

/-- ITS FALSE NEIGHBOUR: 'it returns false'. Refute it at one input. -/
def frameReadsWrong : ChangeSpec := { name := "frameReads", fn := fun _ => fun
  | [d1, d2] => { results := [.lit (.bool false)], args := [d1, d2] }
  | _ => none }
def FrameReadsWrongFalsely : Prop := frameReadsRow.holds Try.pinned (OpenSpec.ofChange frameReadsWrong)

/-- 'cenotaphlaw14.SieveHas': WHATEVER THE INPUT: true; the input reads as it did. -/
def sieveHasSpec : ChangeSpec := { name := "sieveHas", fn := fun _ => fun
  | [d1, d2] => { results := [.lit (.bool true)], args := [d1, d2] }
  | _ => none }
def sieveHasRow : OpenClaim := { program := "ytfebncpfhdgkpaa", sum := "fa97516436fbb7fcda12e5c177ce617499799bb33041531205bfc0bd0bae0b9a", func := "cenotaph/cenotaphlaw14.SieveHas", spec := "sieveHas", apart := false }
def SieveHasSaid : Prop := sieveHasRow.holds Try.pinned (OpenSpec.ofChange sieveHasSpec)

/-- ITS FALSE NEIGHBOUR: 'it returns false'. Refute it at one input. -/
def sieveHasWrong : ChangeSpec := { name := "sieveHas", fn := fun _ => fun
  | [d1, d2] => { results := [.lit (.bool false)], args := [d1, d2] }
  | _ => none }
def SieveHasWrongFalsely : Prop := sieveHasRow.holds Try.pinned (OpenSpec.ofChange sieveHasWrong)

/-- 'cenotaphlaw47.GapsReads': WHATEVER THE INPUT: true; the input reads as it did. -/
def gapsReadsSpec : ChangeSpec := { name := "gapsReads", fn := fun _ => fun
  | [d] => { results := [.lit (.bool true)], args := [d] }
  | _ => none }
def gapsReadsRow : OpenClaim := { program := "ytfebncpfhdgkpaa", sum := "fa97516436fbb7fcda12e5c177ce617499799bb33041531205bfc0bd0bae0b9a", func := "cenotaph/cenotaphlaw47.GapsReads", spec := "gapsReads", recurses := true, apart := false }
def GapsReadsSaid : Prop := gapsReadsRow.holds Try.pinned (OpenSpec.ofChange gapsReadsSpec)

/-- ITS FALSE NEIGHBOUR: 'it returns false'. Refute it at one input. -/
def gapsReadsWrong : ChangeSpec := { name := "gapsReads", fn := fun _ => fun
  | [d] => { results := [.lit (.bool false)], args := [d] }
  | _ => none }
def GapsReadsWrongFalsely : Prop := gapsReadsRow.holds Try.pinned (OpenSpec.ofChange gapsReadsWrong)

/-- 'cenotaphlaw47.GapsPuts': WHATEVER THE INPUT: true; the input reads as it did. -/
def gapsPutsSpec : ChangeSpec := { name := "gapsPuts", fn := fun _ => fun
  | [d1, d2, d3] => { results := [.lit (.bool true)], args := [d1, d2, d3] }
  | _ => none }
def gapsPutsRow : OpenClaim := { program := "ytfebncpfhdgkpaa", sum := "fa97516436fbb7fcda12e5c177ce617499799bb33041531205bfc0bd0bae0b9a", func := "cenotaph/cenotaphlaw47.GapsPuts", spec := "gapsPuts", recurses := true, apart := false }
def GapsPutsSaid : Prop := gapsPutsRow.holds Try.pinned (OpenSpec.ofChange gapsPutsSpec)

/-- ITS FALSE NEIGHBOUR: 'it returns false'. Refute it at one input. -/
def gapsPutsWrong : ChangeSpec := { name := "gapsPuts", fn := fun _ => fun
  | [d1, d2, d3] => { results := [.lit (.bool false)], args := [d1, d2, d3] }
  | _ => none }
def GapsPutsWrongFalsely : Prop := gapsPutsRow.holds Try.pinned (OpenSpec.ofChange gapsPutsWrong)

/-- 'cenotaphlaw21.ConfBytes': WHATEVER THE INPUT: true; the input reads as it did. -/
def confBytesSpec : ChangeSpec := { name := "confBytes", fn := fun _ => fun
  | [d1, d2] => { results := [.lit (.bool true)], args := [d1, d2] }
  | _ => none }
def confBytesRow : OpenClaim := { program := "ytfebncpfhdgkpaa", sum := "fa97516436fbb7fcda12e5c177ce617499799bb33041531205bfc0bd0bae0b9a", func := "cenotaph/cenotaphlaw21.ConfBytes", spec := "confBytes", recurses := true, apart := false }
def ConfBytesSaid : Prop := confBytesRow.holds Try.pinned (OpenSpec.ofChange confBytesSpec)

/-- ITS FALSE NEIGHBOUR: 'it returns false'. Refute it at one input. -/
def confBytesWrong : ChangeSpec := { name := "confBytes", fn := fun _ => fun
  | [d1, d2] => { results := [.lit (.bool false)], args := [d1, d2] }
  | _ => none }
def ConfBytesWrongFalsely : Prop := confBytesRow.holds Try.pinned (OpenSpec.ofChange confBytesWrong)

/-- 'cenotaphlaw14.SieveReads': WHATEVER THE INPUT: true; the input reads as it did. -/
def sieveReadsSpec : ChangeSpec := { name := "sieveReads", fn := fun _ => fun
  | [d1, d2] => { results := [.lit (.bool true)], args := [d1, d2] }
  | _ => none }
def sieveReadsRow : OpenClaim := { program := "ytfebncpfhdgkpaa", sum := "fa97516436fbb7fcda12e5c177ce617499799bb33041531205bfc0bd0bae0b9a", func := "cenotaph/cenotaphlaw14.SieveReads", spec := "sieveReads", recurses := true, apart := false }
def SieveReadsSaid : Prop := sieveReadsRow.holds Try.pinned (OpenSpec.ofChange sieveReadsSpec)

/-- ITS FALSE NEIGHBOUR: 'it returns false'. Refute it at one input. -/
def sieveReadsWrong : ChangeSpec := { name := "sieveReads", fn := fun _ => fun
  | [d1, d2] => { results := [.lit (.bool false)], args := [d1, d2] }
  | _ => none }
def SieveReadsWrongFalsely : Prop := sieveReadsRow.holds Try.pinned (OpenSpec.ofChange sieveReadsWrong)

/- THE SECOND FORM. 'bulk': how many values and letters a reading holds, each counted each time it is reached (what is shared counts as often as it is met; a slice's spare places count too). A statement '..UptoSaid' is the law's where the arguments, and the package variables that the reading takes, are together of bulk at most 1048576: NARROWER than '..Said'. Prove '..Said' where nothing that the law and all that it calls make is longer than what came in: it says more and counts as full. Else prove '..UptoSaid'. A law counts once. -/
mutual
def uptoBulk {H : Type} : DataW H → Nat
  | .lit (.string bytes) => bytes.length + 1
  | .lit _ => 1
  | .nil => 1
  | .ptr d => uptoBulk d + 1
  | .slice elems spare => uptoBulkAll elems + uptoBulkAll spare + 1
  | .agg parts => uptoBulkAll parts + 1
  | .iface _ d => uptoBulk d + 1
  | .map entries => uptoBulkEntries entries + 1
  | .held _ => 1
def uptoBulkAll {H : Type} : List (DataW H) → Nat
  | [] => 0
  | d :: r => uptoBulk d + uptoBulkAll r
def uptoBulkEntries {H : Type} : List (Lit × DataW H) → Nat
  | [] => 0
  | x :: r => uptoBulkEntry x + uptoBulkEntries r
def uptoBulkEntry {H : Type} : Lit × DataW H → Nat
  | (.string bytes, d) => bytes.length + uptoBulk d + 1
  | (_, d) => uptoBulk d + 1
 end
def uptoSmall : (H : Type) → List (DataW H) → Bool := fun _ ds => decide (uptoBulkAll ds ≤ 1048576)
def OpenSpec.upto (s : _root_.Go.ChangeSpec) : _root_.Go.OpenSpec := { _root_.Go.OpenSpec.ofChange s with cond := some uptoSmall }

/-- 'cenotaphlaw44.HistBuckets', WHERE WHAT IT READS IS OF BULK AT MOST 1048576: true; the input reads as it did. -/
def histBucketsUptoRow : OpenClaim := { program := "ytfebncpfhdgkpaa", sum := "fa97516436fbb7fcda12e5c177ce617499799bb33041531205bfc0bd0bae0b9a", func := "cenotaph/cenotaphlaw44.HistBuckets", spec := "histBuckets", unfollowed := true, recurses := true, apart := false, narrowed := true }
def HistBucketsUptoSaid : Prop := histBucketsUptoRow.holds Try.pinned (OpenSpec.upto histBucketsSpec)

/-- 'cenotaphlaw44.HistCounts', WHERE WHAT IT READS IS OF BULK AT MOST 1048576: true; the input reads as it did. -/
def histCountsUptoRow : OpenClaim := { program := "ytfebncpfhdgkpaa", sum := "fa97516436fbb7fcda12e5c177ce617499799bb33041531205bfc0bd0bae0b9a", func := "cenotaph/cenotaphlaw44.HistCounts", spec := "histCounts", unfollowed := true, recurses := true, apart := false, narrowed := true }
def HistCountsUptoSaid : Prop := histCountsUptoRow.holds Try.pinned (OpenSpec.upto histCountsSpec)

/-- 'cenotaphlaw21.ConfMembers', WHERE WHAT IT READS IS OF BULK AT MOST 1048576: true; the input reads as it did. -/
def confMembersUptoRow : OpenClaim := { program := "ytfebncpfhdgkpaa", sum := "fa97516436fbb7fcda12e5c177ce617499799bb33041531205bfc0bd0bae0b9a", func := "cenotaph/cenotaphlaw21.ConfMembers", spec := "confMembers", unfollowed := true, recurses := true, apart := false, narrowed := true }
def ConfMembersUptoSaid : Prop := confMembersUptoRow.holds Try.pinned (OpenSpec.upto confMembersSpec)

/-- 'cenotaphlaw12.FrameCuts', WHERE WHAT IT READS IS OF BULK AT MOST 1048576: true; the input reads as it did. -/
def frameCutsUptoRow : OpenClaim := { program := "ytfebncpfhdgkpaa", sum := "fa97516436fbb7fcda12e5c177ce617499799bb33041531205bfc0bd0bae0b9a", func := "cenotaph/cenotaphlaw12.FrameCuts", spec := "frameCuts", unfollowed := true, recurses := true, apart := false, narrowed := true }
def FrameCutsUptoSaid : Prop := frameCutsUptoRow.holds Try.pinned (OpenSpec.upto frameCutsSpec)

/-- 'cenotaphlaw12.FrameReads', WHERE WHAT IT READS IS OF BULK AT MOST 1048576: true; the input reads as it did. -/
def frameReadsUptoRow : OpenClaim := { program := "ytfebncpfhdgkpaa", sum := "fa97516436fbb7fcda12e5c177ce617499799bb33041531205bfc0bd0bae0b9a", func := "cenotaph/cenotaphlaw12.FrameReads", spec := "frameReads", unfollowed := true, recurses := true, apart := false, narrowed := true }
def FrameReadsUptoSaid : Prop := frameReadsUptoRow.holds Try.pinned (OpenSpec.upto frameReadsSpec)

/-- 'cenotaphlaw14.SieveHas', WHERE WHAT IT READS IS OF BULK AT MOST 1048576: true; the input reads as it did. -/
def sieveHasUptoRow : OpenClaim := { program := "ytfebncpfhdgkpaa", sum := "fa97516436fbb7fcda12e5c177ce617499799bb33041531205bfc0bd0bae0b9a", func := "cenotaph/cenotaphlaw14.SieveHas", spec := "sieveHas", apart := false, narrowed := true }
def SieveHasUptoSaid : Prop := sieveHasUptoRow.holds Try.pinned (OpenSpec.upto sieveHasSpec)

/-- 'cenotaphlaw47.GapsReads', WHERE WHAT IT READS IS OF BULK AT MOST 1048576: true; the input reads as it did. -/
def gapsReadsUptoRow : OpenClaim := { program := "ytfebncpfhdgkpaa", sum := "fa97516436fbb7fcda12e5c177ce617499799bb33041531205bfc0bd0bae0b9a", func := "cenotaph/cenotaphlaw47.GapsReads", spec := "gapsReads", recurses := true, apart := false, narrowed := true }
def GapsReadsUptoSaid : Prop := gapsReadsUptoRow.holds Try.pinned (OpenSpec.upto gapsReadsSpec)

/-- 'cenotaphlaw47.GapsPuts', WHERE WHAT IT READS IS OF BULK AT MOST 1048576: true; the input reads as it did. -/
def gapsPutsUptoRow : OpenClaim := { program := "ytfebncpfhdgkpaa", sum := "fa97516436fbb7fcda12e5c177ce617499799bb33041531205bfc0bd0bae0b9a", func := "cenotaph/cenotaphlaw47.GapsPuts", spec := "gapsPuts", recurses := true, apart := false, narrowed := true }
def GapsPutsUptoSaid : Prop := gapsPutsUptoRow.holds Try.pinned (OpenSpec.upto gapsPutsSpec)

/-- 'cenotaphlaw21.ConfBytes', WHERE WHAT IT READS IS OF BULK AT MOST 1048576: true; the input reads as it did. -/
def confBytesUptoRow : OpenClaim := { program := "ytfebncpfhdgkpaa", sum := "fa97516436fbb7fcda12e5c177ce617499799bb33041531205bfc0bd0bae0b9a", func := "cenotaph/cenotaphlaw21.ConfBytes", spec := "confBytes", recurses := true, apart := false, narrowed := true }
def ConfBytesUptoSaid : Prop := confBytesUptoRow.holds Try.pinned (OpenSpec.upto confBytesSpec)

/-- 'cenotaphlaw14.SieveReads', WHERE WHAT IT READS IS OF BULK AT MOST 1048576: true; the input reads as it did. -/
def sieveReadsUptoRow : OpenClaim := { program := "ytfebncpfhdgkpaa", sum := "fa97516436fbb7fcda12e5c177ce617499799bb33041531205bfc0bd0bae0b9a", func := "cenotaph/cenotaphlaw14.SieveReads", spec := "sieveReads", recurses := true, apart := false, narrowed := true }
def SieveReadsUptoSaid : Prop := sieveReadsUptoRow.holds Try.pinned (OpenSpec.upto sieveReadsSpec)

end Rows
end Go.Proofs.Ytfebncpfhdgkpaa
