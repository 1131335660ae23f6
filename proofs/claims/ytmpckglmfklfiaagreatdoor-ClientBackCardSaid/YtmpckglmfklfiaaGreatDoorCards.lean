/-
  DERIVED. GIVEN WITH THE SEED: THE CARDS: each row of YtmpckglmfklfiaaGreatDoorRows.lean that lists a variable, with what it lists TIED to the program's text (the seventh form; the later family's looks); each row that meets fmt, with fmt's text TOLD by the authors' own Lean function (tested against real Go, not proved from fmt's source: count such statements apart). THE CARD IS WHAT COUNTS. Prove the row's statement (the work); the ties are given (YtmpckglmfklfiaaGreatDoorTie.lean); close each card by the builder's one call (the guide's Derived/Test/ToyasCard.lean, 'card_holds'). Laid BY PROGRAM, IN A SANDBOX (cutbox-door.mjs). By AI agents, Wed Nov 11 2026. No macro, syntax, notation, axiom, sorry.
-/
import Derived.Test.YtmpckglmfklfiaaGreatDoorRows
import GoSem.ClaimSeven
namespace Go.Proofs.YtmpckglmfklfiaaGreatDoor
namespace Rows

/-- THE TIED CARD OF 'tithinglaw26.ClientCalls'. -/
def clientCallsCard : Claim7 := { stood := { row := clientCallsRow, standIns := [], harness := (true, "d276ca00ff0f827a229ecee0338b3a9555edcac4ae4a6c797282561b70bf7238"), looks := true }, kinds := [], alts := [], laidByText := true, laidKinds := [.data, .data, .data], laidTests := true, laidLooks := .later }
def ClientCallsCardSaid : Prop := Claim7.holds Tryz.pinned (.plain (OpenSpec.ofChange clientCallsSpec)) clientCallsCard

/-- THE TIED CARD OF 'tithinglaw26.ClientGets'. -/
def clientGetsCard : Claim7 := { stood := { row := clientGetsRow, standIns := [], harness := (true, "d276ca00ff0f827a229ecee0338b3a9555edcac4ae4a6c797282561b70bf7238"), looks := true }, kinds := [], alts := [], laidByText := true, laidKinds := [.data, .data, .data], laidTests := true, laidLooks := .later }
def ClientGetsCardSaid : Prop := Claim7.holds Tryz.pinned (.plain (OpenSpec.ofChange clientGetsSpec)) clientGetsCard

/-- THE TIED CARD OF 'tithinglaw26.ClientReplies'. -/
def clientRepliesCard : Claim7 := { stood := { row := clientRepliesRow, standIns := [], harness := (true, "d276ca00ff0f827a229ecee0338b3a9555edcac4ae4a6c797282561b70bf7238"), looks := true }, kinds := [], alts := [], laidByText := true, laidKinds := [.data, .data, .data], laidTests := true, laidLooks := .later }
def ClientRepliesCardSaid : Prop := Claim7.holds Tryz.pinned (.plain (OpenSpec.ofChange clientRepliesSpec)) clientRepliesCard

/-- THE TIED CARD OF 'tithinglaw26.ClientReplyGets'. -/
def clientReplyGetsCard : Claim7 := { stood := { row := clientReplyGetsRow, standIns := [], harness := (true, "d276ca00ff0f827a229ecee0338b3a9555edcac4ae4a6c797282561b70bf7238"), looks := true }, kinds := [], alts := [], laidByText := true, laidKinds := [.data, .data, .data], laidTests := true, laidLooks := .later }
def ClientReplyGetsCardSaid : Prop := Claim7.holds Tryz.pinned (.plain (OpenSpec.ofChange clientReplyGetsSpec)) clientReplyGetsCard

/-- THE TIED CARD OF 'tithinglaw26.ClientBack'. -/
def clientBackCard : Claim7 := { stood := { row := clientBackRow, standIns := [], harness := (true, "d276ca00ff0f827a229ecee0338b3a9555edcac4ae4a6c797282561b70bf7238"), looks := true }, kinds := [], alts := [], laidByText := true, laidKinds := [.data, .data, .data], laidTests := true, laidLooks := .later }
def ClientBackCardSaid : Prop := Claim7.holds Tryz.pinned (.plain (OpenSpec.ofChange clientBackSpec)) clientBackCard

/-- THE SECOND FORM's CARD OF 'tithinglaw26.ClientCalls'. -/
def clientCallsUptoCard : Claim7 := { stood := { row := clientCallsUptoRow, standIns := [], harness := (true, "d276ca00ff0f827a229ecee0338b3a9555edcac4ae4a6c797282561b70bf7238"), looks := true }, kinds := [], alts := [], laidByText := true, laidKinds := [.data, .data, .data], laidTests := true, laidLooks := .later }
def ClientCallsUptoCardSaid : Prop := Claim7.holds Tryz.pinned (.plain (OpenSpec.upto clientCallsSpec)) clientCallsUptoCard

/-- THE SECOND FORM's CARD OF 'tithinglaw26.ClientGets'. -/
def clientGetsUptoCard : Claim7 := { stood := { row := clientGetsUptoRow, standIns := [], harness := (true, "d276ca00ff0f827a229ecee0338b3a9555edcac4ae4a6c797282561b70bf7238"), looks := true }, kinds := [], alts := [], laidByText := true, laidKinds := [.data, .data, .data], laidTests := true, laidLooks := .later }
def ClientGetsUptoCardSaid : Prop := Claim7.holds Tryz.pinned (.plain (OpenSpec.upto clientGetsSpec)) clientGetsUptoCard

/-- THE SECOND FORM's CARD OF 'tithinglaw26.ClientReplies'. -/
def clientRepliesUptoCard : Claim7 := { stood := { row := clientRepliesUptoRow, standIns := [], harness := (true, "d276ca00ff0f827a229ecee0338b3a9555edcac4ae4a6c797282561b70bf7238"), looks := true }, kinds := [], alts := [], laidByText := true, laidKinds := [.data, .data, .data], laidTests := true, laidLooks := .later }
def ClientRepliesUptoCardSaid : Prop := Claim7.holds Tryz.pinned (.plain (OpenSpec.upto clientRepliesSpec)) clientRepliesUptoCard

/-- THE SECOND FORM's CARD OF 'tithinglaw26.ClientReplyGets'. -/
def clientReplyGetsUptoCard : Claim7 := { stood := { row := clientReplyGetsUptoRow, standIns := [], harness := (true, "d276ca00ff0f827a229ecee0338b3a9555edcac4ae4a6c797282561b70bf7238"), looks := true }, kinds := [], alts := [], laidByText := true, laidKinds := [.data, .data, .data], laidTests := true, laidLooks := .later }
def ClientReplyGetsUptoCardSaid : Prop := Claim7.holds Tryz.pinned (.plain (OpenSpec.upto clientReplyGetsSpec)) clientReplyGetsUptoCard

/-- THE SECOND FORM's CARD OF 'tithinglaw26.ClientBack'. -/
def clientBackUptoCard : Claim7 := { stood := { row := clientBackUptoRow, standIns := [], harness := (true, "d276ca00ff0f827a229ecee0338b3a9555edcac4ae4a6c797282561b70bf7238"), looks := true }, kinds := [], alts := [], laidByText := true, laidKinds := [.data, .data, .data], laidTests := true, laidLooks := .later }
def ClientBackUptoCardSaid : Prop := Claim7.holds Tryz.pinned (.plain (OpenSpec.upto clientBackSpec)) clientBackUptoCard
end Rows
end Go.Proofs.YtmpckglmfklfiaaGreatDoor
