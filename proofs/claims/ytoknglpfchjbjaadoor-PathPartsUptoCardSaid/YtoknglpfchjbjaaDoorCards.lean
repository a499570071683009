/-
  DERIVED. GIVEN WITH THE SEED: THE CARDS: each row of YtoknglpfchjbjaaDoorRows.lean that lists a variable, with what it lists TIED to the program's text (the seventh form; the later family's looks); each row that meets fmt, with fmt's text TOLD by the authors' own Lean function (tested against real Go, not proved from fmt's source: count such statements apart). THE CARD IS WHAT COUNTS. Prove the row's statement (the work); the ties are given (YtoknglpfchjbjaaDoorTie.lean); close each card by the builder's one call (the guide's Derived/Test/ToyasCard.lean, 'card_holds'). Laid BY PROGRAM, IN A SANDBOX (cutbox-door.mjs). By AI agents, Wed Nov 11 2026. No macro, syntax, notation, axiom, sorry.
-/
import Derived.Test.YtoknglpfchjbjaaDoorRows
import GoSem.ClaimSeven
namespace Go.Proofs.YtoknglpfchjbjaaDoor
namespace Rows

/-- THE TIED CARD OF 'spyglasslaw11.KeysLists'. -/
def keysListsCard : Claim7 := { stood := { row := keysListsRow, standIns := [], harness := (true, "259c9a0858116f4978e5cd52da4d1b51a0cc3ff9b070b8fe61652a5c6ddf8a11"), looks := false }, kinds := [], alts := [], laidByText := true, laidKinds := [.data], laidTests := true, laidLooks := .later }
def KeysListsCardSaid : Prop := Claim7.holds Tryd.pinned (.plain (OpenSpec.ofChange keysListsSpec)) keysListsCard

/-- THE TIED CARD OF 'spyglasslaw16.PathParts'. -/
def pathPartsCard : Claim7 := { stood := { row := pathPartsRow, standIns := [], harness := (true, "259c9a0858116f4978e5cd52da4d1b51a0cc3ff9b070b8fe61652a5c6ddf8a11"), looks := false }, kinds := [], alts := [], laidByText := true, laidKinds := [.data], laidTests := true, laidLooks := .later }
def PathPartsCardSaid : Prop := Claim7.holds Tryd.pinned (.plain (OpenSpec.ofChange pathPartsSpec)) pathPartsCard

/-- THE TIED CARD OF 'spyglasslaw16.PathStars'. -/
def pathStarsCard : Claim7 := { stood := { row := pathStarsRow, standIns := [], harness := (true, "259c9a0858116f4978e5cd52da4d1b51a0cc3ff9b070b8fe61652a5c6ddf8a11"), looks := false }, kinds := [], alts := [], laidByText := true, laidKinds := [.data], laidTests := true, laidLooks := .later }
def PathStarsCardSaid : Prop := Claim7.holds Tryd.pinned (.plain (OpenSpec.ofChange pathStarsSpec)) pathStarsCard

/-- THE SECOND FORM's CARD OF 'spyglasslaw11.KeysLists'. -/
def keysListsUptoCard : Claim7 := { stood := { row := keysListsUptoRow, standIns := [], harness := (true, "259c9a0858116f4978e5cd52da4d1b51a0cc3ff9b070b8fe61652a5c6ddf8a11"), looks := false }, kinds := [], alts := [], laidByText := true, laidKinds := [.data], laidTests := true, laidLooks := .later }
def KeysListsUptoCardSaid : Prop := Claim7.holds Tryd.pinned (.plain (OpenSpec.upto keysListsSpec)) keysListsUptoCard

/-- THE SECOND FORM's CARD OF 'spyglasslaw16.PathParts'. -/
def pathPartsUptoCard : Claim7 := { stood := { row := pathPartsUptoRow, standIns := [], harness := (true, "259c9a0858116f4978e5cd52da4d1b51a0cc3ff9b070b8fe61652a5c6ddf8a11"), looks := false }, kinds := [], alts := [], laidByText := true, laidKinds := [.data], laidTests := true, laidLooks := .later }
def PathPartsUptoCardSaid : Prop := Claim7.holds Tryd.pinned (.plain (OpenSpec.upto pathPartsSpec)) pathPartsUptoCard

/-- THE SECOND FORM's CARD OF 'spyglasslaw16.PathStars'. -/
def pathStarsUptoCard : Claim7 := { stood := { row := pathStarsUptoRow, standIns := [], harness := (true, "259c9a0858116f4978e5cd52da4d1b51a0cc3ff9b070b8fe61652a5c6ddf8a11"), looks := false }, kinds := [], alts := [], laidByText := true, laidKinds := [.data], laidTests := true, laidLooks := .later }
def PathStarsUptoCardSaid : Prop := Claim7.holds Tryd.pinned (.plain (OpenSpec.upto pathStarsSpec)) pathStarsUptoCard
end Rows
end Go.Proofs.YtoknglpfchjbjaaDoor
