/-
  DERIVED. GIVEN WITH THE SEED: THE CARDS: each row of YtjhoekkpbfhalaaGreatDoorRows.lean that lists a variable, with what it lists TIED to the program's text (the seventh form; the later family's looks); each row that meets fmt, with fmt's text TOLD by the authors' own Lean function (tested against real Go, not proved from fmt's source: count such statements apart). THE CARD IS WHAT COUNTS. Prove the row's statement (the work); the ties are given (YtjhoekkpbfhalaaGreatDoorTie.lean); close each card by the builder's one call (the guide's Derived/Test/ToyasCard.lean, 'card_holds'). Laid BY PROGRAM, IN A SANDBOX (cutbox-door.mjs). By AI agents, Wed Nov 11 2026. No macro, syntax, notation, axiom, sorry.
-/
import Derived.Test.YtjhoekkpbfhalaaGreatDoorRows
import GoSem.ClaimSeven
namespace Go.Proofs.YtjhoekkpbfhalaaGreatDoor
namespace Rows

/-- THE TIED CARD OF 'tithinglaw29.WatchBack'. -/
def watchBackCard : Claim7 := { stood := { row := watchBackRow, standIns := [], harness := (true, "36ea94f7cfe30986b8d35e05ab65a56b6fc8f0ca3b4f7e5b25659e88953c3aa2"), looks := true }, kinds := [], alts := [], laidByText := true, laidKinds := [.data, .data, .data, .data, .sentinel, .sentinel, .pinned], laidTests := true, laidLooks := .later }
def WatchBackCardSaid : Prop := Claim7.holds Tryz.pinned (.plain (OpenSpec.ofChange watchBackSpec)) watchBackCard

/-- THE TIED CARD OF 'tithinglaw29.WatchAgain'. -/
def watchAgainCard : Claim7 := { stood := { row := watchAgainRow, standIns := [], harness := (true, "36ea94f7cfe30986b8d35e05ab65a56b6fc8f0ca3b4f7e5b25659e88953c3aa2"), looks := true }, kinds := [], alts := [], laidByText := true, laidKinds := [.data, .data, .data, .data, .sentinel, .sentinel, .pinned], laidTests := true, laidLooks := .later }
def WatchAgainCardSaid : Prop := Claim7.holds Tryz.pinned (.plain (OpenSpec.ofChange watchAgainSpec)) watchAgainCard

/-- THE TIED CARD OF 'tithinglaw29.WatchTrans'. -/
def watchTransCard : Claim7 := { stood := { row := watchTransRow, standIns := [], harness := (true, "36ea94f7cfe30986b8d35e05ab65a56b6fc8f0ca3b4f7e5b25659e88953c3aa2"), looks := true }, kinds := [], alts := [], laidByText := true, laidKinds := [.data, .data, .data, .data, .sentinel, .sentinel, .pinned], laidTests := true, laidLooks := .later }
def WatchTransCardSaid : Prop := Claim7.holds Tryz.pinned (.plain (OpenSpec.ofChange watchTransSpec)) watchTransCard

/-- THE TIED CARD OF 'tithinglaw29.WatchNils'. -/
def watchNilsCard : Claim7 := { stood := { row := watchNilsRow, standIns := [], harness := (true, "36ea94f7cfe30986b8d35e05ab65a56b6fc8f0ca3b4f7e5b25659e88953c3aa2"), looks := true }, kinds := [], alts := [], laidByText := true, laidKinds := [.data, .data, .data, .data, .sentinel, .sentinel, .pinned], laidTests := true, laidLooks := .later }
def WatchNilsCardSaid : Prop := Claim7.holds Tryz.pinned (.plain (OpenSpec.ofChange watchNilsSpec)) watchNilsCard

/-- THE SECOND FORM's CARD OF 'tithinglaw29.WatchBack'. -/
def watchBackUptoCard : Claim7 := { stood := { row := watchBackUptoRow, standIns := [], harness := (true, "36ea94f7cfe30986b8d35e05ab65a56b6fc8f0ca3b4f7e5b25659e88953c3aa2"), looks := true }, kinds := [], alts := [], laidByText := true, laidKinds := [.data, .data, .data, .data, .sentinel, .sentinel, .pinned], laidTests := true, laidLooks := .later }
def WatchBackUptoCardSaid : Prop := Claim7.holds Tryz.pinned (.plain (OpenSpec.upto watchBackSpec)) watchBackUptoCard

/-- THE SECOND FORM's CARD OF 'tithinglaw29.WatchAgain'. -/
def watchAgainUptoCard : Claim7 := { stood := { row := watchAgainUptoRow, standIns := [], harness := (true, "36ea94f7cfe30986b8d35e05ab65a56b6fc8f0ca3b4f7e5b25659e88953c3aa2"), looks := true }, kinds := [], alts := [], laidByText := true, laidKinds := [.data, .data, .data, .data, .sentinel, .sentinel, .pinned], laidTests := true, laidLooks := .later }
def WatchAgainUptoCardSaid : Prop := Claim7.holds Tryz.pinned (.plain (OpenSpec.upto watchAgainSpec)) watchAgainUptoCard

/-- THE SECOND FORM's CARD OF 'tithinglaw29.WatchTrans'. -/
def watchTransUptoCard : Claim7 := { stood := { row := watchTransUptoRow, standIns := [], harness := (true, "36ea94f7cfe30986b8d35e05ab65a56b6fc8f0ca3b4f7e5b25659e88953c3aa2"), looks := true }, kinds := [], alts := [], laidByText := true, laidKinds := [.data, .data, .data, .data, .sentinel, .sentinel, .pinned], laidTests := true, laidLooks := .later }
def WatchTransUptoCardSaid : Prop := Claim7.holds Tryz.pinned (.plain (OpenSpec.upto watchTransSpec)) watchTransUptoCard

/-- THE SECOND FORM's CARD OF 'tithinglaw29.WatchNils'. -/
def watchNilsUptoCard : Claim7 := { stood := { row := watchNilsUptoRow, standIns := [], harness := (true, "36ea94f7cfe30986b8d35e05ab65a56b6fc8f0ca3b4f7e5b25659e88953c3aa2"), looks := true }, kinds := [], alts := [], laidByText := true, laidKinds := [.data, .data, .data, .data, .sentinel, .sentinel, .pinned], laidTests := true, laidLooks := .later }
def WatchNilsUptoCardSaid : Prop := Claim7.holds Tryz.pinned (.plain (OpenSpec.upto watchNilsSpec)) watchNilsUptoCard
end Rows
end Go.Proofs.YtjhoekkpbfhalaaGreatDoor
