/-
  DERIVED. GIVEN WITH THE SEED: THE CARDS: each row of YtfebncpfhdgkpaaDoorRows.lean that lists a variable, with what it lists TIED to the program's text (the seventh form; the later family's looks); each row that meets fmt, with fmt's text TOLD by the authors' own Lean function (tested against real Go, not proved from fmt's source: count such statements apart). THE CARD IS WHAT COUNTS. Prove the row's statement (the work); the ties are given (YtfebncpfhdgkpaaDoorTie.lean); close each card by the builder's one call (the guide's Derived/Test/ToyasCard.lean, 'card_holds'). Laid BY PROGRAM, IN A SANDBOX (cutbox-door.mjs). By AI agents, Wed Nov 11 2026. No macro, syntax, notation, axiom, sorry.
-/
import Derived.Test.YtfebncpfhdgkpaaDoorRows
import GoSem.ClaimSeven
namespace Go.Proofs.YtfebncpfhdgkpaaDoor
namespace Rows

/-- THE TIED CARD OF 'cenotaphlaw01.RunesWords'. -/
def runesWordsCard : Claim7 := { stood := { row := runesWordsRow, standIns := [], harness := (true, "6d4428322b56345735b061101bd39a39df08de940566004ab50385bbf5e556bf"), looks := false }, kinds := [], alts := [], laidByText := true, laidKinds := [.data, .pinned], laidTests := true, laidLooks := .later }
def RunesWordsCardSaid : Prop := Claim7.holds Tryd.pinned (.plain (OpenSpec.ofChange runesWordsSpec)) runesWordsCard

/-- THE TIED CARD OF 'cenotaphlaw01.RunesCuts'. -/
def runesCutsCard : Claim7 := { stood := { row := runesCutsRow, standIns := [], harness := (true, "6d4428322b56345735b061101bd39a39df08de940566004ab50385bbf5e556bf"), looks := false }, kinds := [], alts := [], laidByText := true, laidKinds := [.data, .pinned], laidTests := true, laidLooks := .later }
def RunesCutsCardSaid : Prop := Claim7.holds Tryd.pinned (.plain (OpenSpec.ofChange runesCutsSpec)) runesCutsCard

/-- THE SECOND FORM's CARD OF 'cenotaphlaw01.RunesWords'. -/
def runesWordsUptoCard : Claim7 := { stood := { row := runesWordsUptoRow, standIns := [], harness := (true, "6d4428322b56345735b061101bd39a39df08de940566004ab50385bbf5e556bf"), looks := false }, kinds := [], alts := [], laidByText := true, laidKinds := [.data, .pinned], laidTests := true, laidLooks := .later }
def RunesWordsUptoCardSaid : Prop := Claim7.holds Tryd.pinned (.plain (OpenSpec.upto runesWordsSpec)) runesWordsUptoCard

/-- THE SECOND FORM's CARD OF 'cenotaphlaw01.RunesCuts'. -/
def runesCutsUptoCard : Claim7 := { stood := { row := runesCutsUptoRow, standIns := [], harness := (true, "6d4428322b56345735b061101bd39a39df08de940566004ab50385bbf5e556bf"), looks := false }, kinds := [], alts := [], laidByText := true, laidKinds := [.data, .pinned], laidTests := true, laidLooks := .later }
def RunesCutsUptoCardSaid : Prop := Claim7.holds Tryd.pinned (.plain (OpenSpec.upto runesCutsSpec)) runesCutsUptoCard
end Rows
end Go.Proofs.YtfebncpfhdgkpaaDoor
