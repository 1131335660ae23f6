/-
  DERIVED. GIVEN WITH THE SEED: THE CARDS: each row of YtdjpdanpfojghaaGreatDoorRows.lean that lists a variable, with what it lists TIED to the program's text (the seventh form; the later family's looks); each row that meets fmt, with fmt's text TOLD by the authors' own Lean function (tested against real Go, not proved from fmt's source: count such statements apart). THE CARD IS WHAT COUNTS. Prove the row's statement (the work); the ties are given (YtdjpdanpfojghaaGreatDoorTie.lean); close each card by the builder's one call (the guide's Derived/Test/ToyasCard.lean, 'card_holds'). Laid BY PROGRAM, IN A SANDBOX (cutbox-door.mjs). By AI agents, Wed Nov 11 2026. No macro, syntax, notation, axiom, sorry.
-/
import Derived.Test.YtdjpdanpfojghaaGreatDoorRows
import GoSem.ClaimSeven
namespace Go.Proofs.YtdjpdanpfojghaaGreatDoor
namespace Rows

/-- THE TIED CARD OF 'tithinglaw25.ServerNils'. -/
def serverNilsCard : Claim7 := { stood := { row := serverNilsRow, standIns := [], harness := (true, "c430bc3d895d9f75692852b465fe2066f922f3873d9d4a854bcee1f3de21c350"), looks := true }, kinds := [], alts := [], laidByText := true, laidKinds := [.data, .data, .data, .data, .pinned], laidTests := true, laidLooks := .later }
def ServerNilsCardSaid : Prop := Claim7.holds Tryz.pinned (.plain (OpenSpec.ofChange serverNilsSpec)) serverNilsCard

/-- THE TIED CARD OF 'tithinglaw25.ServerRights'. -/
def serverRightsCard : Claim7 := { stood := { row := serverRightsRow, standIns := [], harness := (true, "c430bc3d895d9f75692852b465fe2066f922f3873d9d4a854bcee1f3de21c350"), looks := true }, kinds := [], alts := [], laidByText := true, laidKinds := [.data, .data, .data], laidTests := true, laidLooks := .later }
def ServerRightsCardSaid : Prop := Claim7.holds Tryz.pinned (.plain (OpenSpec.ofChange serverRightsSpec)) serverRightsCard

/-- THE SECOND FORM's CARD OF 'tithinglaw25.ServerNils'. -/
def serverNilsUptoCard : Claim7 := { stood := { row := serverNilsUptoRow, standIns := [], harness := (true, "c430bc3d895d9f75692852b465fe2066f922f3873d9d4a854bcee1f3de21c350"), looks := true }, kinds := [], alts := [], laidByText := true, laidKinds := [.data, .data, .data, .data, .pinned], laidTests := true, laidLooks := .later }
def ServerNilsUptoCardSaid : Prop := Claim7.holds Tryz.pinned (.plain (OpenSpec.upto serverNilsSpec)) serverNilsUptoCard

/-- THE SECOND FORM's CARD OF 'tithinglaw25.ServerRights'. -/
def serverRightsUptoCard : Claim7 := { stood := { row := serverRightsUptoRow, standIns := [], harness := (true, "c430bc3d895d9f75692852b465fe2066f922f3873d9d4a854bcee1f3de21c350"), looks := true }, kinds := [], alts := [], laidByText := true, laidKinds := [.data, .data, .data], laidTests := true, laidLooks := .later }
def ServerRightsUptoCardSaid : Prop := Claim7.holds Tryz.pinned (.plain (OpenSpec.upto serverRightsSpec)) serverRightsUptoCard
end Rows
end Go.Proofs.YtdjpdanpfojghaaGreatDoor
