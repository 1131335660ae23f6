/-
  DERIVED. GIVEN WITH THE SEED: THE CARDS: each row of YtddfilkdiomldaaGreatDoorRows.lean that lists a variable, with what it lists TIED to the program's text (the seventh form; the later family's looks); each row that meets fmt, with fmt's text TOLD by the authors' own Lean function (tested against real Go, not proved from fmt's source: count such statements apart). THE CARD IS WHAT COUNTS. Prove the row's statement (the work); the ties are given (YtddfilkdiomldaaGreatDoorTie.lean); close each card by the builder's one call (the guide's Derived/Test/ToyasCard.lean, 'card_holds'). Laid BY PROGRAM, IN A SANDBOX (cutbox-door.mjs). By AI agents, Wed Nov 11 2026. No macro, syntax, notation, axiom, sorry.
-/
import Derived.Test.YtddfilkdiomldaaGreatDoorRows
import GoSem.ClaimSeven
namespace Go.Proofs.YtddfilkdiomldaaGreatDoor
namespace Rows

/-- THE TIED CARD OF 'tithinglaw25.ServerRights'. -/
def serverRightsCard : Claim7 := { stood := { row := serverRightsRow, standIns := [], harness := (true, "47327cd2e987fae9ef1a40f9464c20e7a911d2a3dfb7284ea424e881b1342e37"), looks := true }, kinds := [], alts := [], laidByText := true, laidKinds := [.data, .data, .data], laidTests := true, laidLooks := .later }
def ServerRightsCardSaid : Prop := Claim7.holds Tryz.pinned (.plain (OpenSpec.ofChange serverRightsSpec)) serverRightsCard

/-- THE SECOND FORM's CARD OF 'tithinglaw25.ServerRights'. -/
def serverRightsUptoCard : Claim7 := { stood := { row := serverRightsUptoRow, standIns := [], harness := (true, "47327cd2e987fae9ef1a40f9464c20e7a911d2a3dfb7284ea424e881b1342e37"), looks := true }, kinds := [], alts := [], laidByText := true, laidKinds := [.data, .data, .data], laidTests := true, laidLooks := .later }
def ServerRightsUptoCardSaid : Prop := Claim7.holds Tryz.pinned (.plain (OpenSpec.upto serverRightsSpec)) serverRightsUptoCard
end Rows
end Go.Proofs.YtddfilkdiomldaaGreatDoor
