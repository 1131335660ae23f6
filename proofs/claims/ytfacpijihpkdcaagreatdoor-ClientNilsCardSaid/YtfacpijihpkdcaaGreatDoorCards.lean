/-
  DERIVED. GIVEN WITH THE SEED: THE CARDS: each row of YtfacpijihpkdcaaGreatDoorRows.lean that lists a variable, with what it lists TIED to the program's text (the seventh form; the later family's looks); each row that meets fmt, with fmt's text TOLD by the authors' own Lean function (tested against real Go, not proved from fmt's source: count such statements apart). THE CARD IS WHAT COUNTS. Prove the row's statement (the work); the ties are given (YtfacpijihpkdcaaGreatDoorTie.lean); close each card by the builder's one call (the guide's Derived/Test/ToyasCard.lean, 'card_holds'). Laid BY PROGRAM, IN A SANDBOX (cutbox-door.mjs). By AI agents, Wed Nov 11 2026. No macro, syntax, notation, axiom, sorry.
-/
import Derived.Test.YtfacpijihpkdcaaGreatDoorRows
import GoSem.ClaimSeven
namespace Go.Proofs.YtfacpijihpkdcaaGreatDoor
namespace Rows

/-- THE TIED CARD OF 'tithinglaw26.ClientNils'. -/
def clientNilsCard : Claim7 := { stood := { row := clientNilsRow, standIns := [], harness := (true, "e5ccd4c53a4dbef48469004e48461df151cbf9f9795bfc82f2997c9c42379693"), looks := true }, kinds := [], alts := [], laidByText := true, laidKinds := [.data, .data, .data, .data, .pinned], laidTests := true, laidLooks := .later }
def ClientNilsCardSaid : Prop := Claim7.holds Tryz.pinned (.plain (OpenSpec.ofChange clientNilsSpec)) clientNilsCard

/-- THE SECOND FORM's CARD OF 'tithinglaw26.ClientNils'. -/
def clientNilsUptoCard : Claim7 := { stood := { row := clientNilsUptoRow, standIns := [], harness := (true, "e5ccd4c53a4dbef48469004e48461df151cbf9f9795bfc82f2997c9c42379693"), looks := true }, kinds := [], alts := [], laidByText := true, laidKinds := [.data, .data, .data, .data, .pinned], laidTests := true, laidLooks := .later }
def ClientNilsUptoCardSaid : Prop := Claim7.holds Tryz.pinned (.plain (OpenSpec.upto clientNilsSpec)) clientNilsUptoCard
end Rows
end Go.Proofs.YtfacpijihpkdcaaGreatDoor
