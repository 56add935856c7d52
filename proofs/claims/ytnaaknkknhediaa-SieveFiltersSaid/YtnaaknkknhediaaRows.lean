/-
  No cell of these rows narrows 'for every input' (looked for: loops, veiled, ifaces, maps, wideKeys, modest, calm, conditions, laid).
  DERIVED. THE GIVEN ROWS OF THIS SEAT. 12 by the template 'for every input the law returns true; each argument reads behind the call as it read before'; 0 by the template 'total and deterministic' (their statements: YtnaaknkknhediaaTotals.lean).
  GIVEN WITH THE SEED: the statements are not yours to turn. If you find one false, say at which input.
  Laid BY PROGRAM, IN A SANDBOX (cutbox-rows.mjs): the forced cells as the released guide's own fill.sh prints them over the translation b3f9f5ebf4febeb6… (all of the seat's roots in one cut). By AI agents, Wed Nov 11 2026. No macro, syntax, notation, axiom, sorry.
-/
import Derived.Test.YtnaaknkknhediaaChecked
import GoSem.Claim
import GoSem.ClaimJoined
import GoSem.ClaimMapViews
import Derived.JoinedTies
import Derived.KernelRfl
namespace Go.Proofs.Ytnaaknkknhediaa
/- THE CELL 'sum', in the pinned program and in every row, IS THE sha256 OF THE DUMP (.gsa) THAT YtnaaknkknhediaaProg.lean LOADS. Nothing in Lean hashes anything: it is a label: what it is worth is what the hold of that sum in a sandbox is worth. -/
noncomputable def Try.pinned : Pinned := { name := "ytnaaknkknhediaa", sum := "b3f9f5ebf4febeb64f26496004a8353b514b762e59791c5ed4345ec0716a512d", checked := Try.checked }
namespace Rows
def none {H : Type} : Left H := { results := [], args := [] }

/-- 'cenotaphlaw02.NumsAdds': WHATEVER THE INPUT: true; the input reads as it did. -/
def numsAddsSpec : ChangeSpec := { name := "numsAdds", fn := fun _ => fun
  | [d1, d2] => { results := [.lit (.bool true)], args := [d1, d2] }
  | _ => none }
def numsAddsRow : OpenClaim := { program := "ytnaaknkknhediaa", sum := "b3f9f5ebf4febeb64f26496004a8353b514b762e59791c5ed4345ec0716a512d", func := "cenotaph/cenotaphlaw02.NumsAdds", spec := "numsAdds", apart := false }
def NumsAddsSaid : Prop := numsAddsRow.holds Try.pinned (OpenSpec.ofChange numsAddsSpec)

/-- ITS FALSE NEIGHBOUR: 'it returns false'. Refute it at one input. -/
def numsAddsWrong : ChangeSpec := { name := "numsAdds", fn := fun _ => fun
  | [d1, d2] => { results := [.lit (.bool false)], args := [d1, d2] }
  | _ => none }
def NumsAddsWrongFalsely : Prop := numsAddsRow.holds Try.pinned (OpenSpec.ofChange numsAddsWrong)

/-- 'cenotaphlaw02.NumsTexts': WHATEVER THE INPUT: true; the input reads as it did. -/
def numsTextsSpec : ChangeSpec := { name := "numsTexts", fn := fun _ => fun
  | [d1, d2] => { results := [.lit (.bool true)], args := [d1, d2] }
  | _ => none }
def numsTextsRow : OpenClaim := { program := "ytnaaknkknhediaa", sum := "b3f9f5ebf4febeb64f26496004a8353b514b762e59791c5ed4345ec0716a512d", func := "cenotaph/cenotaphlaw02.NumsTexts", spec := "numsTexts", apart := false }
def NumsTextsSaid : Prop := numsTextsRow.holds Try.pinned (OpenSpec.ofChange numsTextsSpec)

/-- ITS FALSE NEIGHBOUR: 'it returns false'. Refute it at one input. -/
def numsTextsWrong : ChangeSpec := { name := "numsTexts", fn := fun _ => fun
  | [d1, d2] => { results := [.lit (.bool false)], args := [d1, d2] }
  | _ => none }
def NumsTextsWrongFalsely : Prop := numsTextsRow.holds Try.pinned (OpenSpec.ofChange numsTextsWrong)

/-- 'cenotaphlaw21.ConfTurns': WHATEVER THE INPUT: true; the input reads as it did. -/
def confTurnsSpec : ChangeSpec := { name := "confTurns", fn := fun _ => fun
  | [d1, d2] => { results := [.lit (.bool true)], args := [d1, d2] }
  | _ => none }
def confTurnsRow : OpenClaim := { program := "ytnaaknkknhediaa", sum := "b3f9f5ebf4febeb64f26496004a8353b514b762e59791c5ed4345ec0716a512d", func := "cenotaph/cenotaphlaw21.ConfTurns", spec := "confTurns", apart := false }
def ConfTurnsSaid : Prop := confTurnsRow.holds Try.pinned (OpenSpec.ofChange confTurnsSpec)

/-- ITS FALSE NEIGHBOUR: 'it returns false'. Refute it at one input. -/
def confTurnsWrong : ChangeSpec := { name := "confTurns", fn := fun _ => fun
  | [d1, d2] => { results := [.lit (.bool false)], args := [d1, d2] }
  | _ => none }
def ConfTurnsWrongFalsely : Prop := confTurnsRow.holds Try.pinned (OpenSpec.ofChange confTurnsWrong)

/-- 'cenotaphlaw03.WirePuts': WHATEVER THE INPUT: true; the input reads as it did. -/
def wirePutsSpec : ChangeSpec := { name := "wirePuts", fn := fun _ => fun
  | [d1, d2, d3] => { results := [.lit (.bool true)], args := [d1, d2, d3] }
  | _ => none }
def wirePutsRow : OpenClaim := { program := "ytnaaknkknhediaa", sum := "b3f9f5ebf4febeb64f26496004a8353b514b762e59791c5ed4345ec0716a512d", func := "cenotaph/cenotaphlaw03.WirePuts", spec := "wirePuts", recurses := true, apart := false }
def WirePutsSaid : Prop := wirePutsRow.holds Try.pinned (OpenSpec.ofChange wirePutsSpec)

/-- ITS FALSE NEIGHBOUR: 'it returns false'. Refute it at one input. -/
def wirePutsWrong : ChangeSpec := { name := "wirePuts", fn := fun _ => fun
  | [d1, d2, d3] => { results := [.lit (.bool false)], args := [d1, d2, d3] }
  | _ => none }
def WirePutsWrongFalsely : Prop := wirePutsRow.holds Try.pinned (OpenSpec.ofChange wirePutsWrong)

/-- 'cenotaphlaw02.NumsStamps': WHATEVER THE INPUT: true; the input reads as it did. -/
def numsStampsSpec : ChangeSpec := { name := "numsStamps", fn := fun _ => fun
  | [d1, d2] => { results := [.lit (.bool true)], args := [d1, d2] }
  | _ => none }
def numsStampsRow : OpenClaim := { program := "ytnaaknkknhediaa", sum := "b3f9f5ebf4febeb64f26496004a8353b514b762e59791c5ed4345ec0716a512d", func := "cenotaph/cenotaphlaw02.NumsStamps", spec := "numsStamps", apart := false }
def NumsStampsSaid : Prop := numsStampsRow.holds Try.pinned (OpenSpec.ofChange numsStampsSpec)

/-- ITS FALSE NEIGHBOUR: 'it returns false'. Refute it at one input. -/
def numsStampsWrong : ChangeSpec := { name := "numsStamps", fn := fun _ => fun
  | [d1, d2] => { results := [.lit (.bool false)], args := [d1, d2] }
  | _ => none }
def NumsStampsWrongFalsely : Prop := numsStampsRow.holds Try.pinned (OpenSpec.ofChange numsStampsWrong)

/-- 'cenotaphlaw47.GapsRuns': WHATEVER THE INPUT: true; the input reads as it did. -/
def gapsRunsSpec : ChangeSpec := { name := "gapsRuns", fn := fun _ => fun
  | [d] => { results := [.lit (.bool true)], args := [d] }
  | _ => none }
def gapsRunsRow : OpenClaim := { program := "ytnaaknkknhediaa", sum := "b3f9f5ebf4febeb64f26496004a8353b514b762e59791c5ed4345ec0716a512d", func := "cenotaph/cenotaphlaw47.GapsRuns", spec := "gapsRuns", apart := false }
def GapsRunsSaid : Prop := gapsRunsRow.holds Try.pinned (OpenSpec.ofChange gapsRunsSpec)

/-- ITS FALSE NEIGHBOUR: 'it returns false'. Refute it at one input. -/
def gapsRunsWrong : ChangeSpec := { name := "gapsRuns", fn := fun _ => fun
  | [d] => { results := [.lit (.bool false)], args := [d] }
  | _ => none }
def GapsRunsWrongFalsely : Prop := gapsRunsRow.holds Try.pinned (OpenSpec.ofChange gapsRunsWrong)

/-- 'cenotaphlaw04.StampOrders': WHATEVER THE INPUT: true; the input reads as it did. -/
def stampOrdersSpec : ChangeSpec := { name := "stampOrders", fn := fun _ => fun
  | [d1, d2] => { results := [.lit (.bool true)], args := [d1, d2] }
  | _ => none }
def stampOrdersRow : OpenClaim := { program := "ytnaaknkknhediaa", sum := "b3f9f5ebf4febeb64f26496004a8353b514b762e59791c5ed4345ec0716a512d", func := "cenotaph/cenotaphlaw04.StampOrders", spec := "stampOrders", apart := false }
def StampOrdersSaid : Prop := stampOrdersRow.holds Try.pinned (OpenSpec.ofChange stampOrdersSpec)

/-- ITS FALSE NEIGHBOUR: 'it returns false'. Refute it at one input. -/
def stampOrdersWrong : ChangeSpec := { name := "stampOrders", fn := fun _ => fun
  | [d1, d2] => { results := [.lit (.bool false)], args := [d1, d2] }
  | _ => none }
def StampOrdersWrongFalsely : Prop := stampOrdersRow.holds Try.pinned (OpenSpec.ofChange stampOrdersWrong)

/-- 'cenotaphlaw47.GapsMany': WHATEVER THE INPUT: true; the input reads as it did. -/
def gapsManySpec : ChangeSpec := { name := "gapsMany", fn := fun _ => fun
  | [d] => { results := [.lit (.bool true)], args := [d] }
  | _ => none }
def gapsManyRow : OpenClaim := { program := "ytnaaknkknhediaa", sum := "b3f9f5ebf4febeb64f26496004a8353b514b762e59791c5ed4345ec0716a512d", func := "cenotaph/cenotaphlaw47.GapsMany", spec := "gapsMany", apart := false }
def GapsManySaid : Prop := gapsManyRow.holds Try.pinned (OpenSpec.ofChange gapsManySpec)

/-- ITS FALSE NEIGHBOUR: 'it returns false'. Refute it at one input. -/
def gapsManyWrong : ChangeSpec := { name := "gapsMany", fn := fun _ => fun
  | [d] => { results := [.lit (.bool false)], args := [d] }
  | _ => none }
def GapsManyWrongFalsely : Prop := gapsManyRow.holds Try.pinned (OpenSpec.ofChange gapsManyWrong)

/-- 'cenotaphlaw04.StampRises': WHATEVER THE INPUT: true; the input reads as it did. -/
def stampRisesSpec : ChangeSpec := { name := "stampRises", fn := fun _ => fun
  | [d1, d2, d3] => { results := [.lit (.bool true)], args := [d1, d2, d3] }
  | _ => none }
def stampRisesRow : OpenClaim := { program := "ytnaaknkknhediaa", sum := "b3f9f5ebf4febeb64f26496004a8353b514b762e59791c5ed4345ec0716a512d", func := "cenotaph/cenotaphlaw04.StampRises", spec := "stampRises", apart := false }
def StampRisesSaid : Prop := stampRisesRow.holds Try.pinned (OpenSpec.ofChange stampRisesSpec)

/-- ITS FALSE NEIGHBOUR: 'it returns false'. Refute it at one input. -/
def stampRisesWrong : ChangeSpec := { name := "stampRises", fn := fun _ => fun
  | [d1, d2, d3] => { results := [.lit (.bool false)], args := [d1, d2, d3] }
  | _ => none }
def StampRisesWrongFalsely : Prop := stampRisesRow.holds Try.pinned (OpenSpec.ofChange stampRisesWrong)

/-- 'cenotaphlaw03.WireBack': WHATEVER THE INPUT: true; the input reads as it did. -/
def wireBackSpec : ChangeSpec := { name := "wireBack", fn := fun _ => fun
  | [d1, d2, d3] => { results := [.lit (.bool true)], args := [d1, d2, d3] }
  | _ => none }
def wireBackRow : OpenClaim := { program := "ytnaaknkknhediaa", sum := "b3f9f5ebf4febeb64f26496004a8353b514b762e59791c5ed4345ec0716a512d", func := "cenotaph/cenotaphlaw03.WireBack", spec := "wireBack", apart := false }
def WireBackSaid : Prop := wireBackRow.holds Try.pinned (OpenSpec.ofChange wireBackSpec)

/-- ITS FALSE NEIGHBOUR: 'it returns false'. Refute it at one input. -/
def wireBackWrong : ChangeSpec := { name := "wireBack", fn := fun _ => fun
  | [d1, d2, d3] => { results := [.lit (.bool false)], args := [d1, d2, d3] }
  | _ => none }
def WireBackWrongFalsely : Prop := wireBackRow.holds Try.pinned (OpenSpec.ofChange wireBackWrong)

/-- 'cenotaphlaw04.StampPlays': WHATEVER THE INPUT: true; the input reads as it did. -/
def stampPlaysSpec : ChangeSpec := { name := "stampPlays", fn := fun _ => fun
  | [d1, d2, d3] => { results := [.lit (.bool true)], args := [d1, d2, d3] }
  | _ => none }
def stampPlaysRow : OpenClaim := { program := "ytnaaknkknhediaa", sum := "b3f9f5ebf4febeb64f26496004a8353b514b762e59791c5ed4345ec0716a512d", func := "cenotaph/cenotaphlaw04.StampPlays", spec := "stampPlays", apart := false }
def StampPlaysSaid : Prop := stampPlaysRow.holds Try.pinned (OpenSpec.ofChange stampPlaysSpec)

/-- ITS FALSE NEIGHBOUR: 'it returns false'. Refute it at one input. -/
def stampPlaysWrong : ChangeSpec := { name := "stampPlays", fn := fun _ => fun
  | [d1, d2, d3] => { results := [.lit (.bool false)], args := [d1, d2, d3] }
  | _ => none }
def StampPlaysWrongFalsely : Prop := stampPlaysRow.holds Try.pinned (OpenSpec.ofChange stampPlaysWrong)

/-- 'cenotaphlaw14.SieveFilters': WHATEVER THE INPUT: true; the input reads as it did. -/
def sieveFiltersSpec : ChangeSpec := { name := "sieveFilters", fn := fun _ => fun
  | [d1, d2] => { results := [.lit (.bool true)], args := [d1, d2] }
  | _ => none }
def sieveFiltersRow : OpenClaim := { program := "ytnaaknkknhediaa", sum := "b3f9f5ebf4febeb64f26496004a8353b514b762e59791c5ed4345ec0716a512d", func := "cenotaph/cenotaphlaw14.SieveFilters", spec := "sieveFilters", recurses := true, apart := false }
def SieveFiltersSaid : Prop := sieveFiltersRow.holds Try.pinned (OpenSpec.ofChange sieveFiltersSpec)

/-- ITS FALSE NEIGHBOUR: 'it returns false'. Refute it at one input. -/
def sieveFiltersWrong : ChangeSpec := { name := "sieveFilters", fn := fun _ => fun
  | [d1, d2] => { results := [.lit (.bool false)], args := [d1, d2] }
  | _ => none }
def SieveFiltersWrongFalsely : Prop := sieveFiltersRow.holds Try.pinned (OpenSpec.ofChange sieveFiltersWrong)

/- THE SECOND FORM. 'bulk': how many values and letters a reading holds, each counted each time it is reached (what is shared counts as often as it is met; a slice's spare places count too). A statement '..UptoSaid' is the law's where the arguments, and the package variables that the reading takes, are together of bulk at most 1048576: NARROWER than '..Said'. Prove '..Said' where nothing that the law and all that it calls make is longer than what came in: it says more and counts as full. Else prove '..UptoSaid'. A law counts once. -/
mutual
def uptoBulk {H : Type} : DataW H → Nat
  | .lit (.string bytes) => bytes.length + 1
  | .lit _ => 1
  | .nil => 1
  | .ptr d => uptoBulk d + 1
  | .slice elems spare => uptoBulkAll elems + uptoBulkAll spare + 1
  | .agg parts => uptoBulkAll parts + 1
  | .iface _ d => uptoBulk d + 1
  | .map entries => uptoBulkEntries entries + 1
  | .held _ => 1
def uptoBulkAll {H : Type} : List (DataW H) → Nat
  | [] => 0
  | d :: r => uptoBulk d + uptoBulkAll r
def uptoBulkEntries {H : Type} : List (Lit × DataW H) → Nat
  | [] => 0
  | x :: r => uptoBulkEntry x + uptoBulkEntries r
def uptoBulkEntry {H : Type} : Lit × DataW H → Nat
  | (.string bytes, d) => bytes.length + uptoBulk d + 1
  | (_, d) => uptoBulk d + 1
 end
def uptoSmall : (H : Type) → List (DataW H) → Bool := fun _ ds => decide (uptoBulkAll ds ≤ 1048576)
def OpenSpec.upto (s : _root_.Go.ChangeSpec) : _root_.Go.OpenSpec := { _root_.Go.OpenSpec.ofChange s with cond := some uptoSmall }

/-- 'cenotaphlaw02.NumsAdds', WHERE WHAT IT READS IS OF BULK AT MOST 1048576: true; the input reads as it did. -/
def numsAddsUptoRow : OpenClaim := { program := "ytnaaknkknhediaa", sum := "b3f9f5ebf4febeb64f26496004a8353b514b762e59791c5ed4345ec0716a512d", func := "cenotaph/cenotaphlaw02.NumsAdds", spec := "numsAdds", apart := false, narrowed := true }
def NumsAddsUptoSaid : Prop := numsAddsUptoRow.holds Try.pinned (OpenSpec.upto numsAddsSpec)

/-- 'cenotaphlaw02.NumsTexts', WHERE WHAT IT READS IS OF BULK AT MOST 1048576: true; the input reads as it did. -/
def numsTextsUptoRow : OpenClaim := { program := "ytnaaknkknhediaa", sum := "b3f9f5ebf4febeb64f26496004a8353b514b762e59791c5ed4345ec0716a512d", func := "cenotaph/cenotaphlaw02.NumsTexts", spec := "numsTexts", apart := false, narrowed := true }
def NumsTextsUptoSaid : Prop := numsTextsUptoRow.holds Try.pinned (OpenSpec.upto numsTextsSpec)

/-- 'cenotaphlaw21.ConfTurns', WHERE WHAT IT READS IS OF BULK AT MOST 1048576: true; the input reads as it did. -/
def confTurnsUptoRow : OpenClaim := { program := "ytnaaknkknhediaa", sum := "b3f9f5ebf4febeb64f26496004a8353b514b762e59791c5ed4345ec0716a512d", func := "cenotaph/cenotaphlaw21.ConfTurns", spec := "confTurns", apart := false, narrowed := true }
def ConfTurnsUptoSaid : Prop := confTurnsUptoRow.holds Try.pinned (OpenSpec.upto confTurnsSpec)

/-- 'cenotaphlaw03.WirePuts', WHERE WHAT IT READS IS OF BULK AT MOST 1048576: true; the input reads as it did. -/
def wirePutsUptoRow : OpenClaim := { program := "ytnaaknkknhediaa", sum := "b3f9f5ebf4febeb64f26496004a8353b514b762e59791c5ed4345ec0716a512d", func := "cenotaph/cenotaphlaw03.WirePuts", spec := "wirePuts", recurses := true, apart := false, narrowed := true }
def WirePutsUptoSaid : Prop := wirePutsUptoRow.holds Try.pinned (OpenSpec.upto wirePutsSpec)

/-- 'cenotaphlaw02.NumsStamps', WHERE WHAT IT READS IS OF BULK AT MOST 1048576: true; the input reads as it did. -/
def numsStampsUptoRow : OpenClaim := { program := "ytnaaknkknhediaa", sum := "b3f9f5ebf4febeb64f26496004a8353b514b762e59791c5ed4345ec0716a512d", func := "cenotaph/cenotaphlaw02.NumsStamps", spec := "numsStamps", apart := false, narrowed := true }
def NumsStampsUptoSaid : Prop := numsStampsUptoRow.holds Try.pinned (OpenSpec.upto numsStampsSpec)

/-- 'cenotaphlaw47.GapsRuns', WHERE WHAT IT READS IS OF BULK AT MOST 1048576: true; the input reads as it did. -/
def gapsRunsUptoRow : OpenClaim := { program := "ytnaaknkknhediaa", sum := "b3f9f5ebf4febeb64f26496004a8353b514b762e59791c5ed4345ec0716a512d", func := "cenotaph/cenotaphlaw47.GapsRuns", spec := "gapsRuns", apart := false, narrowed := true }
def GapsRunsUptoSaid : Prop := gapsRunsUptoRow.holds Try.pinned (OpenSpec.upto gapsRunsSpec)

/-- 'cenotaphlaw04.StampOrders', WHERE WHAT IT READS IS OF BULK AT MOST 1048576: true; the input reads as it did. -/
def stampOrdersUptoRow : OpenClaim := { program := "ytnaaknkknhediaa", sum := "b3f9f5ebf4febeb64f26496004a8353b514b762e59791c5ed4345ec0716a512d", func := "cenotaph/cenotaphlaw04.StampOrders", spec := "stampOrders", apart := false, narrowed := true }
def StampOrdersUptoSaid : Prop := stampOrdersUptoRow.holds Try.pinned (OpenSpec.upto stampOrdersSpec)

/-- 'cenotaphlaw47.GapsMany', WHERE WHAT IT READS IS OF BULK AT MOST 1048576: true; the input reads as it did. -/
def gapsManyUptoRow : OpenClaim := { program := "ytnaaknkknhediaa", sum := "b3f9f5ebf4febeb64f26496004a8353b514b762e59791c5ed4345ec0716a512d", func := "cenotaph/cenotaphlaw47.GapsMany", spec := "gapsMany", apart := false, narrowed := true }
def GapsManyUptoSaid : Prop := gapsManyUptoRow.holds Try.pinned (OpenSpec.upto gapsManySpec)

/-- 'cenotaphlaw04.StampRises', WHERE WHAT IT READS IS OF BULK AT MOST 1048576: true; the input reads as it did. -/
def stampRisesUptoRow : OpenClaim := { program := "ytnaaknkknhediaa", sum := "b3f9f5ebf4febeb64f26496004a8353b514b762e59791c5ed4345ec0716a512d", func := "cenotaph/cenotaphlaw04.StampRises", spec := "stampRises", apart := false, narrowed := true }
def StampRisesUptoSaid : Prop := stampRisesUptoRow.holds Try.pinned (OpenSpec.upto stampRisesSpec)

/-- 'cenotaphlaw03.WireBack', WHERE WHAT IT READS IS OF BULK AT MOST 1048576: true; the input reads as it did. -/
def wireBackUptoRow : OpenClaim := { program := "ytnaaknkknhediaa", sum := "b3f9f5ebf4febeb64f26496004a8353b514b762e59791c5ed4345ec0716a512d", func := "cenotaph/cenotaphlaw03.WireBack", spec := "wireBack", apart := false, narrowed := true }
def WireBackUptoSaid : Prop := wireBackUptoRow.holds Try.pinned (OpenSpec.upto wireBackSpec)

/-- 'cenotaphlaw04.StampPlays', WHERE WHAT IT READS IS OF BULK AT MOST 1048576: true; the input reads as it did. -/
def stampPlaysUptoRow : OpenClaim := { program := "ytnaaknkknhediaa", sum := "b3f9f5ebf4febeb64f26496004a8353b514b762e59791c5ed4345ec0716a512d", func := "cenotaph/cenotaphlaw04.StampPlays", spec := "stampPlays", apart := false, narrowed := true }
def StampPlaysUptoSaid : Prop := stampPlaysUptoRow.holds Try.pinned (OpenSpec.upto stampPlaysSpec)

/-- 'cenotaphlaw14.SieveFilters', WHERE WHAT IT READS IS OF BULK AT MOST 1048576: true; the input reads as it did. -/
def sieveFiltersUptoRow : OpenClaim := { program := "ytnaaknkknhediaa", sum := "b3f9f5ebf4febeb64f26496004a8353b514b762e59791c5ed4345ec0716a512d", func := "cenotaph/cenotaphlaw14.SieveFilters", spec := "sieveFilters", recurses := true, apart := false, narrowed := true }
def SieveFiltersUptoSaid : Prop := sieveFiltersUptoRow.holds Try.pinned (OpenSpec.upto sieveFiltersSpec)

end Rows
end Go.Proofs.Ytnaaknkknhediaa
