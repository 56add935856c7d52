/-
  DERIVED. GIVEN WITH THE SEED: THE CARDS: each row of YtncdchhpdbmfcaaDoorRows.lean that lists a variable, with what it lists TIED to the program's text (the seventh form; the later family's looks); each row that meets fmt, with fmt's text TOLD by the authors' own Lean function (tested against real Go, not proved from fmt's source: count such statements apart). THE CARD IS WHAT COUNTS. Prove the row's statement (the work); the ties are given (YtncdchhpdbmfcaaDoorTie.lean); close each card by the builder's one call (the guide's Derived/Test/ToyasCard.lean, 'card_holds'). Laid BY PROGRAM, IN A SANDBOX (cutbox-door.mjs). By AI agents, Wed Nov 11 2026. No macro, syntax, notation, axiom, sorry.
-/
import Derived.Test.YtncdchhpdbmfcaaDoorRows
import GoSem.ClaimSeven
namespace Go.Proofs.YtncdchhpdbmfcaaDoor
namespace Rows

/-- THE TIED CARD OF 'cenotaphlaw20.RingStays'. -/
def ringStaysCard : Claim7 := { stood := { row := ringStaysRow, standIns := [], harness := (true, "433a8e9e3724f67b051f10511f035a4d699b239a05d985b860042b53cc2a3c26"), looks := false }, kinds := [], alts := [], laidByText := true, laidKinds := [.data, .pinned], laidTests := true, laidLooks := .later }
def RingStaysCardSaid : Prop := Claim7.holds Tryd.pinned (.plain (OpenSpec.ofChange ringStaysSpec)) ringStaysCard

/-- THE TIED CARD OF 'cenotaphlaw20.RingReplicas'. -/
def ringReplicasCard : Claim7 := { stood := { row := ringReplicasRow, standIns := [], harness := (true, "433a8e9e3724f67b051f10511f035a4d699b239a05d985b860042b53cc2a3c26"), looks := false }, kinds := [], alts := [], laidByText := true, laidKinds := [.data, .pinned], laidTests := true, laidLooks := .later }
def RingReplicasCardSaid : Prop := Claim7.holds Tryd.pinned (.plain (OpenSpec.ofChange ringReplicasSpec)) ringReplicasCard

/-- THE TIED CARD OF 'cenotaphlaw20.RingRanges'. -/
def ringRangesCard : Claim7 := { stood := { row := ringRangesRow, standIns := [], harness := (true, "433a8e9e3724f67b051f10511f035a4d699b239a05d985b860042b53cc2a3c26"), looks := false }, kinds := [], alts := [], laidByText := true, laidKinds := [.data, .pinned], laidTests := true, laidLooks := .later }
def RingRangesCardSaid : Prop := Claim7.holds Tryd.pinned (.plain (OpenSpec.ofChange ringRangesSpec)) ringRangesCard

/-- THE SECOND FORM's CARD OF 'cenotaphlaw20.RingStays'. -/
def ringStaysUptoCard : Claim7 := { stood := { row := ringStaysUptoRow, standIns := [], harness := (true, "433a8e9e3724f67b051f10511f035a4d699b239a05d985b860042b53cc2a3c26"), looks := false }, kinds := [], alts := [], laidByText := true, laidKinds := [.data, .pinned], laidTests := true, laidLooks := .later }
def RingStaysUptoCardSaid : Prop := Claim7.holds Tryd.pinned (.plain (OpenSpec.upto ringStaysSpec)) ringStaysUptoCard

/-- THE SECOND FORM's CARD OF 'cenotaphlaw20.RingReplicas'. -/
def ringReplicasUptoCard : Claim7 := { stood := { row := ringReplicasUptoRow, standIns := [], harness := (true, "433a8e9e3724f67b051f10511f035a4d699b239a05d985b860042b53cc2a3c26"), looks := false }, kinds := [], alts := [], laidByText := true, laidKinds := [.data, .pinned], laidTests := true, laidLooks := .later }
def RingReplicasUptoCardSaid : Prop := Claim7.holds Tryd.pinned (.plain (OpenSpec.upto ringReplicasSpec)) ringReplicasUptoCard

/-- THE SECOND FORM's CARD OF 'cenotaphlaw20.RingRanges'. -/
def ringRangesUptoCard : Claim7 := { stood := { row := ringRangesUptoRow, standIns := [], harness := (true, "433a8e9e3724f67b051f10511f035a4d699b239a05d985b860042b53cc2a3c26"), looks := false }, kinds := [], alts := [], laidByText := true, laidKinds := [.data, .pinned], laidTests := true, laidLooks := .later }
def RingRangesUptoCardSaid : Prop := Claim7.holds Tryd.pinned (.plain (OpenSpec.upto ringRangesSpec)) ringRangesUptoCard
end Rows
end Go.Proofs.YtncdchhpdbmfcaaDoor
