/-
  DERIVED. GIVEN WITH THE SEED: THE CARDS: each row of YtfkncjfpgflafaaDoorRows.lean that lists a variable, with what it lists TIED to the program's text (the seventh form; the later family's looks); each row that meets fmt, with fmt's text TOLD by the authors' own Lean function (tested against real Go, not proved from fmt's source: count such statements apart). THE CARD IS WHAT COUNTS. Prove the row's statement (the work); the ties are given (YtfkncjfpgflafaaDoorTie.lean); close each card by the builder's one call (the guide's Derived/Test/ToyasCard.lean, 'card_holds'). Laid BY PROGRAM, IN A SANDBOX (cutbox-door.mjs). By AI agents, Wed Nov 11 2026. No macro, syntax, notation, axiom, sorry.
-/
import Derived.Test.YtfkncjfpgflafaaDoorRows
import GoSem.ClaimSeven
namespace Go.Proofs.YtfkncjfpgflafaaDoor
namespace Rows

/-- THE TIED CARD OF 'maskkeep4.LegalPlaces'. -/
def legalPlacesCard : Claim7 := { stood := { row := legalPlacesRow, standIns := [], harness := (true, "614ed602978f22db95158501f210b9d7193187f93b16f09a9e5ff2b6f6fe0c6c"), looks := true }, kinds := [], alts := [], laidByText := true, laidKinds := [.data, .data, .data], laidTests := true, laidLooks := .later }
def LegalPlacesCardSaid : Prop := Claim7.holds Tryd.pinned (.plain (OpenSpec.ofChange legalPlacesSpec)) legalPlacesCard

/-- THE TIED CARD OF 'maskkeep4.GlobalRoutes'. -/
def globalRoutesCard : Claim7 := { stood := { row := globalRoutesRow, standIns := [], harness := (true, "614ed602978f22db95158501f210b9d7193187f93b16f09a9e5ff2b6f6fe0c6c"), looks := true }, kinds := [], alts := [], laidByText := true, laidKinds := [.data, .data, .data], laidTests := true, laidLooks := .later }
def GlobalRoutesCardSaid : Prop := Claim7.holds Tryd.pinned (.plain (OpenSpec.ofChange globalRoutesSpec)) globalRoutesCard

/-- THE SECOND FORM's CARD OF 'maskkeep4.LegalPlaces'. -/
def legalPlacesUptoCard : Claim7 := { stood := { row := legalPlacesUptoRow, standIns := [], harness := (true, "614ed602978f22db95158501f210b9d7193187f93b16f09a9e5ff2b6f6fe0c6c"), looks := true }, kinds := [], alts := [], laidByText := true, laidKinds := [.data, .data, .data], laidTests := true, laidLooks := .later }
def LegalPlacesUptoCardSaid : Prop := Claim7.holds Tryd.pinned (.plain (OpenSpec.upto legalPlacesSpec)) legalPlacesUptoCard

/-- THE SECOND FORM's CARD OF 'maskkeep4.GlobalRoutes'. -/
def globalRoutesUptoCard : Claim7 := { stood := { row := globalRoutesUptoRow, standIns := [], harness := (true, "614ed602978f22db95158501f210b9d7193187f93b16f09a9e5ff2b6f6fe0c6c"), looks := true }, kinds := [], alts := [], laidByText := true, laidKinds := [.data, .data, .data], laidTests := true, laidLooks := .later }
def GlobalRoutesUptoCardSaid : Prop := Claim7.holds Tryd.pinned (.plain (OpenSpec.upto globalRoutesSpec)) globalRoutesUptoCard
end Rows
end Go.Proofs.YtfkncjfpgflafaaDoor
