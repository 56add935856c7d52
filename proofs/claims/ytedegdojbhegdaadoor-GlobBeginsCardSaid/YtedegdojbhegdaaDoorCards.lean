/-
  DERIVED. GIVEN WITH THE SEED: THE CARDS: each row of YtedegdojbhegdaaDoorRows.lean that lists a variable, with what it lists TIED to the program's text (the seventh form; the later family's looks); each row that meets fmt, with fmt's text TOLD by the authors' own Lean function (tested against real Go, not proved from fmt's source: count such statements apart). THE CARD IS WHAT COUNTS. Prove the row's statement (the work); the ties are given (YtedegdojbhegdaaDoorTie.lean); close each card by the builder's one call (the guide's Derived/Test/ToyasCard.lean, 'card_holds'). Laid BY PROGRAM, IN A SANDBOX (cutbox-door.mjs). By AI agents, Wed Nov 11 2026. No macro, syntax, notation, axiom, sorry.
-/
import Derived.Test.YtedegdojbhegdaaDoorRows
import GoSem.ClaimSeven
namespace Go.Proofs.YtedegdojbhegdaaDoor
namespace Rows

/-- THE TIED CARD OF 'cenotaphlaw01.RunesQuotes'. -/
def runesQuotesCard : Claim7 := { stood := { row := runesQuotesRow, standIns := [], harness := (true, "0120ed949898de1161388f6d91d7d29f1ea5367af2b951f72d65443c728094ea"), looks := false }, kinds := [], alts := [], laidByText := true, laidKinds := [.data, .pinned], laidTests := true, laidLooks := .later }
def RunesQuotesCardSaid : Prop := Claim7.holds Tryd.pinned (.plain (OpenSpec.ofChange runesQuotesSpec)) runesQuotesCard

/-- THE TIED CARD OF 'cenotaphlaw01.RunesBack'. -/
def runesBackCard : Claim7 := { stood := { row := runesBackRow, standIns := [], harness := (true, "0120ed949898de1161388f6d91d7d29f1ea5367af2b951f72d65443c728094ea"), looks := false }, kinds := [], alts := [], laidByText := true, laidKinds := [.data, .pinned], laidTests := true, laidLooks := .later }
def RunesBackCardSaid : Prop := Claim7.holds Tryd.pinned (.plain (OpenSpec.ofChange runesBackSpec)) runesBackCard

/-- THE TIED CARD OF 'cenotaphlaw38.GlobMatches'. -/
def globMatchesCard : Claim7 := { stood := { row := globMatchesRow, standIns := [], harness := (true, "0120ed949898de1161388f6d91d7d29f1ea5367af2b951f72d65443c728094ea"), looks := false }, kinds := [], alts := [], laidByText := true, laidKinds := [.data, .pinned], laidTests := true, laidLooks := .later }
def GlobMatchesCardSaid : Prop := Claim7.holds Tryd.pinned (.plain (OpenSpec.ofChange globMatchesSpec)) globMatchesCard

/-- THE TIED CARD OF 'cenotaphlaw38.GlobPlain'. -/
def globPlainCard : Claim7 := { stood := { row := globPlainRow, standIns := [], harness := (true, "0120ed949898de1161388f6d91d7d29f1ea5367af2b951f72d65443c728094ea"), looks := false }, kinds := [], alts := [], laidByText := true, laidKinds := [.data, .pinned], laidTests := true, laidLooks := .later }
def GlobPlainCardSaid : Prop := Claim7.holds Tryd.pinned (.plain (OpenSpec.ofChange globPlainSpec)) globPlainCard

/-- THE TIED CARD OF 'cenotaphlaw38.GlobBegins'. -/
def globBeginsCard : Claim7 := { stood := { row := globBeginsRow, standIns := [], harness := (true, "0120ed949898de1161388f6d91d7d29f1ea5367af2b951f72d65443c728094ea"), looks := false }, kinds := [], alts := [], laidByText := true, laidKinds := [.data, .pinned], laidTests := true, laidLooks := .later }
def GlobBeginsCardSaid : Prop := Claim7.holds Tryd.pinned (.plain (OpenSpec.ofChange globBeginsSpec)) globBeginsCard

/-- THE TIED CARD OF 'cenotaphlaw01.RunesKeys'. -/
def runesKeysCard : Claim7 := { stood := { row := runesKeysRow, standIns := [], harness := (true, "0120ed949898de1161388f6d91d7d29f1ea5367af2b951f72d65443c728094ea"), looks := false }, kinds := [], alts := [], laidByText := true, laidKinds := [.data, .pinned], laidTests := true, laidLooks := .later }
def RunesKeysCardSaid : Prop := Claim7.holds Tryd.pinned (.plain (OpenSpec.ofChange runesKeysSpec)) runesKeysCard

/-- THE TIED CARD OF 'cenotaphlaw13.MemPlays'. -/
def memPlaysCard : Claim7 := { stood := { row := memPlaysRow, standIns := [], harness := (true, "0120ed949898de1161388f6d91d7d29f1ea5367af2b951f72d65443c728094ea"), looks := false }, kinds := [], alts := [], laidByText := true, laidKinds := [.data, .pinned], laidTests := true, laidLooks := .later }
def MemPlaysCardSaid : Prop := Claim7.holds Tryd.pinned (.plain (OpenSpec.ofChange memPlaysSpec)) memPlaysCard

/-- THE SECOND FORM's CARD OF 'cenotaphlaw01.RunesQuotes'. -/
def runesQuotesUptoCard : Claim7 := { stood := { row := runesQuotesUptoRow, standIns := [], harness := (true, "0120ed949898de1161388f6d91d7d29f1ea5367af2b951f72d65443c728094ea"), looks := false }, kinds := [], alts := [], laidByText := true, laidKinds := [.data, .pinned], laidTests := true, laidLooks := .later }
def RunesQuotesUptoCardSaid : Prop := Claim7.holds Tryd.pinned (.plain (OpenSpec.upto runesQuotesSpec)) runesQuotesUptoCard

/-- THE SECOND FORM's CARD OF 'cenotaphlaw01.RunesBack'. -/
def runesBackUptoCard : Claim7 := { stood := { row := runesBackUptoRow, standIns := [], harness := (true, "0120ed949898de1161388f6d91d7d29f1ea5367af2b951f72d65443c728094ea"), looks := false }, kinds := [], alts := [], laidByText := true, laidKinds := [.data, .pinned], laidTests := true, laidLooks := .later }
def RunesBackUptoCardSaid : Prop := Claim7.holds Tryd.pinned (.plain (OpenSpec.upto runesBackSpec)) runesBackUptoCard

/-- THE SECOND FORM's CARD OF 'cenotaphlaw38.GlobMatches'. -/
def globMatchesUptoCard : Claim7 := { stood := { row := globMatchesUptoRow, standIns := [], harness := (true, "0120ed949898de1161388f6d91d7d29f1ea5367af2b951f72d65443c728094ea"), looks := false }, kinds := [], alts := [], laidByText := true, laidKinds := [.data, .pinned], laidTests := true, laidLooks := .later }
def GlobMatchesUptoCardSaid : Prop := Claim7.holds Tryd.pinned (.plain (OpenSpec.upto globMatchesSpec)) globMatchesUptoCard

/-- THE SECOND FORM's CARD OF 'cenotaphlaw38.GlobPlain'. -/
def globPlainUptoCard : Claim7 := { stood := { row := globPlainUptoRow, standIns := [], harness := (true, "0120ed949898de1161388f6d91d7d29f1ea5367af2b951f72d65443c728094ea"), looks := false }, kinds := [], alts := [], laidByText := true, laidKinds := [.data, .pinned], laidTests := true, laidLooks := .later }
def GlobPlainUptoCardSaid : Prop := Claim7.holds Tryd.pinned (.plain (OpenSpec.upto globPlainSpec)) globPlainUptoCard

/-- THE SECOND FORM's CARD OF 'cenotaphlaw38.GlobBegins'. -/
def globBeginsUptoCard : Claim7 := { stood := { row := globBeginsUptoRow, standIns := [], harness := (true, "0120ed949898de1161388f6d91d7d29f1ea5367af2b951f72d65443c728094ea"), looks := false }, kinds := [], alts := [], laidByText := true, laidKinds := [.data, .pinned], laidTests := true, laidLooks := .later }
def GlobBeginsUptoCardSaid : Prop := Claim7.holds Tryd.pinned (.plain (OpenSpec.upto globBeginsSpec)) globBeginsUptoCard

/-- THE SECOND FORM's CARD OF 'cenotaphlaw01.RunesKeys'. -/
def runesKeysUptoCard : Claim7 := { stood := { row := runesKeysUptoRow, standIns := [], harness := (true, "0120ed949898de1161388f6d91d7d29f1ea5367af2b951f72d65443c728094ea"), looks := false }, kinds := [], alts := [], laidByText := true, laidKinds := [.data, .pinned], laidTests := true, laidLooks := .later }
def RunesKeysUptoCardSaid : Prop := Claim7.holds Tryd.pinned (.plain (OpenSpec.upto runesKeysSpec)) runesKeysUptoCard

/-- THE SECOND FORM's CARD OF 'cenotaphlaw13.MemPlays'. -/
def memPlaysUptoCard : Claim7 := { stood := { row := memPlaysUptoRow, standIns := [], harness := (true, "0120ed949898de1161388f6d91d7d29f1ea5367af2b951f72d65443c728094ea"), looks := false }, kinds := [], alts := [], laidByText := true, laidKinds := [.data, .pinned], laidTests := true, laidLooks := .later }
def MemPlaysUptoCardSaid : Prop := Claim7.holds Tryd.pinned (.plain (OpenSpec.upto memPlaysSpec)) memPlaysUptoCard
end Rows
end Go.Proofs.YtedegdojbhegdaaDoor
