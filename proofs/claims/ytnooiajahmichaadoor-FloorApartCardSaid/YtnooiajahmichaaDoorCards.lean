/-
  DERIVED. GIVEN WITH THE SEED: THE CARDS: each row of YtnooiajahmichaaDoorRows.lean that lists a variable, with what it lists TIED to the program's text (the seventh form; the later family's looks); each row that meets fmt, with fmt's text TOLD by the authors' own Lean function (tested against real Go, not proved from fmt's source: count such statements apart). THE CARD IS WHAT COUNTS. Prove the row's statement (the work); the ties are given (YtnooiajahmichaaDoorTie.lean); close each card by the builder's one call (the guide's Derived/Test/ToyasCard.lean, 'card_holds'). Laid BY PROGRAM, IN A SANDBOX (cutbox-door.mjs). By AI agents, Wed Nov 11 2026. No macro, syntax, notation, axiom, sorry.
-/
import Derived.Test.YtnooiajahmichaaDoorRows
import GoSem.ClaimSeven
namespace Go.Proofs.YtnooiajahmichaaDoor
namespace Rows

/-- THE TIED CARD OF 'maskkeep4.FloorApart'. -/
def floorApartCard : Claim7 := { stood := { row := floorApartRow, standIns := [], harness := (true, "34175f312f8d60a83e87c2c66195fba0201aca872894c7a806b0314d8a547da0"), looks := false }, kinds := [], alts := [], laidByText := true, laidKinds := [.data, .data, .data], laidTests := true, laidLooks := .later }
def FloorApartCardSaid : Prop := Claim7.holds Tryd.pinned (.plain (OpenSpec.ofChange floorApartSpec)) floorApartCard

/-- THE SECOND FORM's CARD OF 'maskkeep4.FloorApart'. -/
def floorApartUptoCard : Claim7 := { stood := { row := floorApartUptoRow, standIns := [], harness := (true, "34175f312f8d60a83e87c2c66195fba0201aca872894c7a806b0314d8a547da0"), looks := false }, kinds := [], alts := [], laidByText := true, laidKinds := [.data, .data, .data], laidTests := true, laidLooks := .later }
def FloorApartUptoCardSaid : Prop := Claim7.holds Tryd.pinned (.plain (OpenSpec.upto floorApartSpec)) floorApartUptoCard
end Rows
end Go.Proofs.YtnooiajahmichaaDoor
