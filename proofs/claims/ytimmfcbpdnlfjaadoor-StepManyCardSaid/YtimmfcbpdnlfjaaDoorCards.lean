/-
  DERIVED. GIVEN WITH THE SEED: THE CARDS: each row of YtimmfcbpdnlfjaaDoorRows.lean that lists a variable, with what it lists TIED to the program's text (the seventh form; the later family's looks); each row that meets fmt, with fmt's text TOLD by the authors' own Lean function (tested against real Go, not proved from fmt's source: count such statements apart). THE CARD IS WHAT COUNTS. Prove the row's statement (the work); the ties are given (YtimmfcbpdnlfjaaDoorTie.lean); close each card by the builder's one call (the guide's Derived/Test/ToyasCard.lean, 'card_holds'). Laid BY PROGRAM, IN A SANDBOX (cutbox-door.mjs). By AI agents, Wed Nov 11 2026. No macro, syntax, notation, axiom, sorry.
-/
import Derived.Test.YtimmfcbpdnlfjaaDoorRows
import GoSem.ClaimSeven
namespace Go.Proofs.YtimmfcbpdnlfjaaDoor
namespace Rows

/-- THE TIED CARD OF 'cenotaphlaw40.StepLines'. -/
def stepLinesCard : Claim7 := { stood := { row := stepLinesRow, standIns := [], harness := (true, "930edcb7e8366fecf5262a4d4ff4e1076a7d35010b21d482c61f6764132824d9"), looks := false }, kinds := [], alts := [], laidByText := true, laidKinds := [.data, .pinned], laidTests := true, laidLooks := .later }
def StepLinesCardSaid : Prop := Claim7.holds Tryd.pinned (.plain (OpenSpec.ofChange stepLinesSpec)) stepLinesCard

/-- THE TIED CARD OF 'cenotaphlaw40.StepTexts'. -/
def stepTextsCard : Claim7 := { stood := { row := stepTextsRow, standIns := [], harness := (true, "930edcb7e8366fecf5262a4d4ff4e1076a7d35010b21d482c61f6764132824d9"), looks := false }, kinds := [], alts := [], laidByText := true, laidKinds := [.data, .pinned], laidTests := true, laidLooks := .later }
def StepTextsCardSaid : Prop := Claim7.holds Tryd.pinned (.plain (OpenSpec.ofChange stepTextsSpec)) stepTextsCard

/-- THE TIED CARD OF 'cenotaphlaw40.StepBack'. -/
def stepBackCard : Claim7 := { stood := { row := stepBackRow, standIns := [], harness := (true, "930edcb7e8366fecf5262a4d4ff4e1076a7d35010b21d482c61f6764132824d9"), looks := false }, kinds := [], alts := [], laidByText := true, laidKinds := [.data, .pinned], laidTests := true, laidLooks := .later }
def StepBackCardSaid : Prop := Claim7.holds Tryd.pinned (.plain (OpenSpec.ofChange stepBackSpec)) stepBackCard

/-- THE TIED CARD OF 'cenotaphlaw40.StepMany'. -/
def stepManyCard : Claim7 := { stood := { row := stepManyRow, standIns := [], harness := (true, "930edcb7e8366fecf5262a4d4ff4e1076a7d35010b21d482c61f6764132824d9"), looks := false }, kinds := [], alts := [], laidByText := true, laidKinds := [.data, .pinned], laidTests := true, laidLooks := .later }
def StepManyCardSaid : Prop := Claim7.holds Tryd.pinned (.plain (OpenSpec.ofChange stepManySpec)) stepManyCard

/-- THE SECOND FORM's CARD OF 'cenotaphlaw40.StepLines'. -/
def stepLinesUptoCard : Claim7 := { stood := { row := stepLinesUptoRow, standIns := [], harness := (true, "930edcb7e8366fecf5262a4d4ff4e1076a7d35010b21d482c61f6764132824d9"), looks := false }, kinds := [], alts := [], laidByText := true, laidKinds := [.data, .pinned], laidTests := true, laidLooks := .later }
def StepLinesUptoCardSaid : Prop := Claim7.holds Tryd.pinned (.plain (OpenSpec.upto stepLinesSpec)) stepLinesUptoCard

/-- THE SECOND FORM's CARD OF 'cenotaphlaw40.StepTexts'. -/
def stepTextsUptoCard : Claim7 := { stood := { row := stepTextsUptoRow, standIns := [], harness := (true, "930edcb7e8366fecf5262a4d4ff4e1076a7d35010b21d482c61f6764132824d9"), looks := false }, kinds := [], alts := [], laidByText := true, laidKinds := [.data, .pinned], laidTests := true, laidLooks := .later }
def StepTextsUptoCardSaid : Prop := Claim7.holds Tryd.pinned (.plain (OpenSpec.upto stepTextsSpec)) stepTextsUptoCard

/-- THE SECOND FORM's CARD OF 'cenotaphlaw40.StepBack'. -/
def stepBackUptoCard : Claim7 := { stood := { row := stepBackUptoRow, standIns := [], harness := (true, "930edcb7e8366fecf5262a4d4ff4e1076a7d35010b21d482c61f6764132824d9"), looks := false }, kinds := [], alts := [], laidByText := true, laidKinds := [.data, .pinned], laidTests := true, laidLooks := .later }
def StepBackUptoCardSaid : Prop := Claim7.holds Tryd.pinned (.plain (OpenSpec.upto stepBackSpec)) stepBackUptoCard

/-- THE SECOND FORM's CARD OF 'cenotaphlaw40.StepMany'. -/
def stepManyUptoCard : Claim7 := { stood := { row := stepManyUptoRow, standIns := [], harness := (true, "930edcb7e8366fecf5262a4d4ff4e1076a7d35010b21d482c61f6764132824d9"), looks := false }, kinds := [], alts := [], laidByText := true, laidKinds := [.data, .pinned], laidTests := true, laidLooks := .later }
def StepManyUptoCardSaid : Prop := Claim7.holds Tryd.pinned (.plain (OpenSpec.upto stepManySpec)) stepManyUptoCard
end Rows
end Go.Proofs.YtimmfcbpdnlfjaaDoor
