/-
  DERIVED. GIVEN WITH THE SEED: THE CARDS: each row of YtoinadgkjnbejaaDoorRows.lean that lists a variable, with what it lists TIED to the program's text (the seventh form; the later family's looks); each row that meets fmt, with fmt's text TOLD by the authors' own Lean function (tested against real Go, not proved from fmt's source: count such statements apart). THE CARD IS WHAT COUNTS. Prove the row's statement (the work); the ties are given (YtoinadgkjnbejaaDoorTie.lean); close each card by the builder's one call (the guide's Derived/Test/ToyasCard.lean, 'card_holds'). Laid BY PROGRAM, IN A SANDBOX (cutbox-door.mjs). By AI agents, Wed Nov 11 2026. No macro, syntax, notation, axiom, sorry.
-/
import Derived.Test.YtoinadgkjnbejaaDoorRows
import GoSem.ClaimSeven
namespace Go.Proofs.YtoinadgkjnbejaaDoor
namespace Rows

/-- THE TIED CARD OF 'tithinglaw14.PageParses'. -/
def pageParsesCard : Claim7 := { stood := { row := pageParsesRow, standIns := [], harness := (true, "e75348e7e79458286cde3c1606f34508048db1d072249089798b7eeaa04dff01"), looks := true }, kinds := [], alts := [], laidByText := true, laidKinds := [.data, .data, .data, .data, .sentinel, .sentinel, .pinned], laidTests := true, laidLooks := .later }
def PageParsesCardSaid : Prop := Claim7.holds Tryd.pinned (.plain (OpenSpec.ofChange pageParsesSpec)) pageParsesCard

/-- THE TIED CARD OF 'tithinglaw14.PageNames'. -/
def pageNamesCard : Claim7 := { stood := { row := pageNamesRow, standIns := [], harness := (true, "e75348e7e79458286cde3c1606f34508048db1d072249089798b7eeaa04dff01"), looks := true }, kinds := [], alts := [], laidByText := true, laidKinds := [.data, .data, .data, .data, .sentinel, .sentinel, .pinned], laidTests := true, laidLooks := .later }
def PageNamesCardSaid : Prop := Claim7.holds Tryd.pinned (.plain (OpenSpec.ofChange pageNamesSpec)) pageNamesCard

/-- THE TIED CARD OF 'tithinglaw14.PageBack'. -/
def pageBackCard : Claim7 := { stood := { row := pageBackRow, standIns := [], harness := (true, "e75348e7e79458286cde3c1606f34508048db1d072249089798b7eeaa04dff01"), looks := true }, kinds := [], alts := [], laidByText := true, laidKinds := [.data, .data, .data, .data, .sentinel, .sentinel, .pinned], laidTests := true, laidLooks := .later }
def PageBackCardSaid : Prop := Claim7.holds Tryd.pinned (.plain (OpenSpec.ofChange pageBackSpec)) pageBackCard

/-- THE SECOND FORM's CARD OF 'tithinglaw14.PageParses'. -/
def pageParsesUptoCard : Claim7 := { stood := { row := pageParsesUptoRow, standIns := [], harness := (true, "e75348e7e79458286cde3c1606f34508048db1d072249089798b7eeaa04dff01"), looks := true }, kinds := [], alts := [], laidByText := true, laidKinds := [.data, .data, .data, .data, .sentinel, .sentinel, .pinned], laidTests := true, laidLooks := .later }
def PageParsesUptoCardSaid : Prop := Claim7.holds Tryd.pinned (.plain (OpenSpec.upto pageParsesSpec)) pageParsesUptoCard

/-- THE SECOND FORM's CARD OF 'tithinglaw14.PageNames'. -/
def pageNamesUptoCard : Claim7 := { stood := { row := pageNamesUptoRow, standIns := [], harness := (true, "e75348e7e79458286cde3c1606f34508048db1d072249089798b7eeaa04dff01"), looks := true }, kinds := [], alts := [], laidByText := true, laidKinds := [.data, .data, .data, .data, .sentinel, .sentinel, .pinned], laidTests := true, laidLooks := .later }
def PageNamesUptoCardSaid : Prop := Claim7.holds Tryd.pinned (.plain (OpenSpec.upto pageNamesSpec)) pageNamesUptoCard

/-- THE SECOND FORM's CARD OF 'tithinglaw14.PageBack'. -/
def pageBackUptoCard : Claim7 := { stood := { row := pageBackUptoRow, standIns := [], harness := (true, "e75348e7e79458286cde3c1606f34508048db1d072249089798b7eeaa04dff01"), looks := true }, kinds := [], alts := [], laidByText := true, laidKinds := [.data, .data, .data, .data, .sentinel, .sentinel, .pinned], laidTests := true, laidLooks := .later }
def PageBackUptoCardSaid : Prop := Claim7.holds Tryd.pinned (.plain (OpenSpec.upto pageBackSpec)) pageBackUptoCard
end Rows
end Go.Proofs.YtoinadgkjnbejaaDoor
