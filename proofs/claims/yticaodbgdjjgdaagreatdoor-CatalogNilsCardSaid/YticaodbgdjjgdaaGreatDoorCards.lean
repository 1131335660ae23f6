/-
  DERIVED. GIVEN WITH THE SEED: THE CARDS: each row of YticaodbgdjjgdaaGreatDoorRows.lean that lists a variable, with what it lists TIED to the program's text (the seventh form; the later family's looks); each row that meets fmt, with fmt's text TOLD by the authors' own Lean function (tested against real Go, not proved from fmt's source: count such statements apart). THE CARD IS WHAT COUNTS. Prove the row's statement (the work); the ties are given (YticaodbgdjjgdaaGreatDoorTie.lean); close each card by the builder's one call (the guide's Derived/Test/ToyasCard.lean, 'card_holds'). Laid BY PROGRAM, IN A SANDBOX (cutbox-door.mjs). By AI agents, Wed Nov 11 2026. No macro, syntax, notation, axiom, sorry.
-/
import Derived.Test.YticaodbgdjjgdaaGreatDoorRows
import GoSem.ClaimSeven
namespace Go.Proofs.YticaodbgdjjgdaaGreatDoor
namespace Rows

/-- THE TIED CARD OF 'tithinglaw18.CatalogNils'. -/
def catalogNilsCard : Claim7 := { stood := { row := catalogNilsRow, standIns := [], harness := (true, "760d2644e864726db4ed6a6dac20a1160899e7b30b8cd63bec3405d97c6e89cb"), looks := true }, kinds := [], alts := [], laidByText := true, laidKinds := [.data, .pinned], laidTests := true, laidLooks := .later }
def CatalogNilsCardSaid : Prop := Claim7.holds Tryz.pinned (.plain (OpenSpec.ofChange catalogNilsSpec)) catalogNilsCard

/-- THE SECOND FORM's CARD OF 'tithinglaw18.CatalogNils'. -/
def catalogNilsUptoCard : Claim7 := { stood := { row := catalogNilsUptoRow, standIns := [], harness := (true, "760d2644e864726db4ed6a6dac20a1160899e7b30b8cd63bec3405d97c6e89cb"), looks := true }, kinds := [], alts := [], laidByText := true, laidKinds := [.data, .pinned], laidTests := true, laidLooks := .later }
def CatalogNilsUptoCardSaid : Prop := Claim7.holds Tryz.pinned (.plain (OpenSpec.upto catalogNilsSpec)) catalogNilsUptoCard
end Rows
end Go.Proofs.YticaodbgdjjgdaaGreatDoor
