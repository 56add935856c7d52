/-
  DERIVED. GIVEN WITH THE SEED: THE CARDS: each row of YthbhbechemnidaaDoorRows.lean that lists a variable, with what it lists TIED to the program's text (the seventh form; the later family's looks); each row that meets fmt, with fmt's text TOLD by the authors' own Lean function (tested against real Go, not proved from fmt's source: count such statements apart). THE CARD IS WHAT COUNTS. Prove the row's statement (the work); the ties are given (YthbhbechemnidaaDoorTie.lean); close each card by the builder's one call (the guide's Derived/Test/ToyasCard.lean, 'card_holds'). Laid BY PROGRAM, IN A SANDBOX (cutbox-door.mjs). By AI agents, Wed Nov 11 2026. No macro, syntax, notation, axiom, sorry.
-/
import Derived.Test.YthbhbechemnidaaDoorRows
import GoSem.ClaimSeven
namespace Go.Proofs.YthbhbechemnidaaDoor
namespace Rows

/-- THE TIED CARD OF 'cenotaphlaw13.MemPlays'. -/
def memPlaysCard : Claim7 := { stood := { row := memPlaysRow, standIns := [], harness := (true, "9bd60999f2b70b9305dc02a44ae81cad07e7aec69c760d6b0f17c7989968d4fa"), looks := false }, kinds := [], alts := [], laidByText := true, laidKinds := [.data, .pinned], laidTests := true, laidLooks := .later }
def MemPlaysCardSaid : Prop := Claim7.holds Tryd.pinned (.plain (OpenSpec.ofChange memPlaysSpec)) memPlaysCard

/-- THE TIED CARD OF 'cenotaphlaw07.MutOrders'. -/
def mutOrdersCard : Claim7 := { stood := { row := mutOrdersRow, standIns := [], harness := (true, "9bd60999f2b70b9305dc02a44ae81cad07e7aec69c760d6b0f17c7989968d4fa"), looks := false }, kinds := [], alts := [], laidByText := true, laidKinds := [.data, .pinned], laidTests := true, laidLooks := .later }
def MutOrdersCardSaid : Prop := Claim7.holds Tryd.pinned (.plain (OpenSpec.ofChange mutOrdersSpec)) mutOrdersCard

/-- THE TIED CARD OF 'cenotaphlaw07.MutRight'. -/
def mutRightCard : Claim7 := { stood := { row := mutRightRow, standIns := [], harness := (true, "9bd60999f2b70b9305dc02a44ae81cad07e7aec69c760d6b0f17c7989968d4fa"), looks := false }, kinds := [], alts := [], laidByText := true, laidKinds := [.data, .pinned], laidTests := true, laidLooks := .later }
def MutRightCardSaid : Prop := Claim7.holds Tryd.pinned (.plain (OpenSpec.ofChange mutRightSpec)) mutRightCard

/-- THE TIED CARD OF 'cenotaphlaw07.MutBytes'. -/
def mutBytesCard : Claim7 := { stood := { row := mutBytesRow, standIns := [], harness := (true, "9bd60999f2b70b9305dc02a44ae81cad07e7aec69c760d6b0f17c7989968d4fa"), looks := false }, kinds := [], alts := [], laidByText := true, laidKinds := [.data, .pinned], laidTests := true, laidLooks := .later }
def MutBytesCardSaid : Prop := Claim7.holds Tryd.pinned (.plain (OpenSpec.ofChange mutBytesSpec)) mutBytesCard

/-- THE TIED CARD OF 'cenotaphlaw07.MutReads'. -/
def mutReadsCard : Claim7 := { stood := { row := mutReadsRow, standIns := [], harness := (true, "9bd60999f2b70b9305dc02a44ae81cad07e7aec69c760d6b0f17c7989968d4fa"), looks := false }, kinds := [], alts := [], laidByText := true, laidKinds := [.data, .pinned], laidTests := true, laidLooks := .later }
def MutReadsCardSaid : Prop := Claim7.holds Tryd.pinned (.plain (OpenSpec.ofChange mutReadsSpec)) mutReadsCard

/-- THE TIED CARD OF 'cenotaphlaw07.MutBack'. -/
def mutBackCard : Claim7 := { stood := { row := mutBackRow, standIns := [], harness := (true, "9bd60999f2b70b9305dc02a44ae81cad07e7aec69c760d6b0f17c7989968d4fa"), looks := false }, kinds := [], alts := [], laidByText := true, laidKinds := [.data, .pinned], laidTests := true, laidLooks := .later }
def MutBackCardSaid : Prop := Claim7.holds Tryd.pinned (.plain (OpenSpec.ofChange mutBackSpec)) mutBackCard

/-- THE TIED CARD OF 'cenotaphlaw15.PageCuts'. -/
def pageCutsCard : Claim7 := { stood := { row := pageCutsRow, standIns := [], harness := (true, "9bd60999f2b70b9305dc02a44ae81cad07e7aec69c760d6b0f17c7989968d4fa"), looks := false }, kinds := [], alts := [], laidByText := true, laidKinds := [.data, .pinned], laidTests := true, laidLooks := .later }
def PageCutsCardSaid : Prop := Claim7.holds Tryd.pinned (.plain (OpenSpec.ofChange pageCutsSpec)) pageCutsCard

/-- THE TIED CARD OF 'cenotaphlaw15.PageBack'. -/
def pageBackCard : Claim7 := { stood := { row := pageBackRow, standIns := [], harness := (true, "9bd60999f2b70b9305dc02a44ae81cad07e7aec69c760d6b0f17c7989968d4fa"), looks := false }, kinds := [], alts := [], laidByText := true, laidKinds := [.data, .pinned], laidTests := true, laidLooks := .later }
def PageBackCardSaid : Prop := Claim7.holds Tryd.pinned (.plain (OpenSpec.ofChange pageBackSpec)) pageBackCard

/-- THE TIED CARD OF 'cenotaphlaw15.PageReads'. -/
def pageReadsCard : Claim7 := { stood := { row := pageReadsRow, standIns := [], harness := (true, "9bd60999f2b70b9305dc02a44ae81cad07e7aec69c760d6b0f17c7989968d4fa"), looks := false }, kinds := [], alts := [], laidByText := true, laidKinds := [.data, .pinned], laidTests := true, laidLooks := .later }
def PageReadsCardSaid : Prop := Claim7.holds Tryd.pinned (.plain (OpenSpec.ofChange pageReadsSpec)) pageReadsCard

/-- THE SECOND FORM's CARD OF 'cenotaphlaw13.MemPlays'. -/
def memPlaysUptoCard : Claim7 := { stood := { row := memPlaysUptoRow, standIns := [], harness := (true, "9bd60999f2b70b9305dc02a44ae81cad07e7aec69c760d6b0f17c7989968d4fa"), looks := false }, kinds := [], alts := [], laidByText := true, laidKinds := [.data, .pinned], laidTests := true, laidLooks := .later }
def MemPlaysUptoCardSaid : Prop := Claim7.holds Tryd.pinned (.plain (OpenSpec.upto memPlaysSpec)) memPlaysUptoCard

/-- THE SECOND FORM's CARD OF 'cenotaphlaw07.MutOrders'. -/
def mutOrdersUptoCard : Claim7 := { stood := { row := mutOrdersUptoRow, standIns := [], harness := (true, "9bd60999f2b70b9305dc02a44ae81cad07e7aec69c760d6b0f17c7989968d4fa"), looks := false }, kinds := [], alts := [], laidByText := true, laidKinds := [.data, .pinned], laidTests := true, laidLooks := .later }
def MutOrdersUptoCardSaid : Prop := Claim7.holds Tryd.pinned (.plain (OpenSpec.upto mutOrdersSpec)) mutOrdersUptoCard

/-- THE SECOND FORM's CARD OF 'cenotaphlaw07.MutRight'. -/
def mutRightUptoCard : Claim7 := { stood := { row := mutRightUptoRow, standIns := [], harness := (true, "9bd60999f2b70b9305dc02a44ae81cad07e7aec69c760d6b0f17c7989968d4fa"), looks := false }, kinds := [], alts := [], laidByText := true, laidKinds := [.data, .pinned], laidTests := true, laidLooks := .later }
def MutRightUptoCardSaid : Prop := Claim7.holds Tryd.pinned (.plain (OpenSpec.upto mutRightSpec)) mutRightUptoCard

/-- THE SECOND FORM's CARD OF 'cenotaphlaw07.MutBytes'. -/
def mutBytesUptoCard : Claim7 := { stood := { row := mutBytesUptoRow, standIns := [], harness := (true, "9bd60999f2b70b9305dc02a44ae81cad07e7aec69c760d6b0f17c7989968d4fa"), looks := false }, kinds := [], alts := [], laidByText := true, laidKinds := [.data, .pinned], laidTests := true, laidLooks := .later }
def MutBytesUptoCardSaid : Prop := Claim7.holds Tryd.pinned (.plain (OpenSpec.upto mutBytesSpec)) mutBytesUptoCard

/-- THE SECOND FORM's CARD OF 'cenotaphlaw07.MutReads'. -/
def mutReadsUptoCard : Claim7 := { stood := { row := mutReadsUptoRow, standIns := [], harness := (true, "9bd60999f2b70b9305dc02a44ae81cad07e7aec69c760d6b0f17c7989968d4fa"), looks := false }, kinds := [], alts := [], laidByText := true, laidKinds := [.data, .pinned], laidTests := true, laidLooks := .later }
def MutReadsUptoCardSaid : Prop := Claim7.holds Tryd.pinned (.plain (OpenSpec.upto mutReadsSpec)) mutReadsUptoCard

/-- THE SECOND FORM's CARD OF 'cenotaphlaw07.MutBack'. -/
def mutBackUptoCard : Claim7 := { stood := { row := mutBackUptoRow, standIns := [], harness := (true, "9bd60999f2b70b9305dc02a44ae81cad07e7aec69c760d6b0f17c7989968d4fa"), looks := false }, kinds := [], alts := [], laidByText := true, laidKinds := [.data, .pinned], laidTests := true, laidLooks := .later }
def MutBackUptoCardSaid : Prop := Claim7.holds Tryd.pinned (.plain (OpenSpec.upto mutBackSpec)) mutBackUptoCard

/-- THE SECOND FORM's CARD OF 'cenotaphlaw15.PageCuts'. -/
def pageCutsUptoCard : Claim7 := { stood := { row := pageCutsUptoRow, standIns := [], harness := (true, "9bd60999f2b70b9305dc02a44ae81cad07e7aec69c760d6b0f17c7989968d4fa"), looks := false }, kinds := [], alts := [], laidByText := true, laidKinds := [.data, .pinned], laidTests := true, laidLooks := .later }
def PageCutsUptoCardSaid : Prop := Claim7.holds Tryd.pinned (.plain (OpenSpec.upto pageCutsSpec)) pageCutsUptoCard

/-- THE SECOND FORM's CARD OF 'cenotaphlaw15.PageBack'. -/
def pageBackUptoCard : Claim7 := { stood := { row := pageBackUptoRow, standIns := [], harness := (true, "9bd60999f2b70b9305dc02a44ae81cad07e7aec69c760d6b0f17c7989968d4fa"), looks := false }, kinds := [], alts := [], laidByText := true, laidKinds := [.data, .pinned], laidTests := true, laidLooks := .later }
def PageBackUptoCardSaid : Prop := Claim7.holds Tryd.pinned (.plain (OpenSpec.upto pageBackSpec)) pageBackUptoCard

/-- THE SECOND FORM's CARD OF 'cenotaphlaw15.PageReads'. -/
def pageReadsUptoCard : Claim7 := { stood := { row := pageReadsUptoRow, standIns := [], harness := (true, "9bd60999f2b70b9305dc02a44ae81cad07e7aec69c760d6b0f17c7989968d4fa"), looks := false }, kinds := [], alts := [], laidByText := true, laidKinds := [.data, .pinned], laidTests := true, laidLooks := .later }
def PageReadsUptoCardSaid : Prop := Claim7.holds Tryd.pinned (.plain (OpenSpec.upto pageReadsSpec)) pageReadsUptoCard
end Rows
end Go.Proofs.YthbhbechemnidaaDoor
