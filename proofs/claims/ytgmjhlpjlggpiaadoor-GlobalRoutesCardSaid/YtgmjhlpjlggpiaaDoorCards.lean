/-
  DERIVED. GIVEN WITH THE SEED: THE CARDS: each row of YtgmjhlpjlggpiaaDoorRows.lean that lists a variable, with what it lists TIED to the program's text (the seventh form; the later family's looks); each row that meets fmt, with fmt's text TOLD by the authors' own Lean function (tested against real Go, not proved from fmt's source: count such statements apart). THE CARD IS WHAT COUNTS. Prove the row's statement (the work); the ties are given (YtgmjhlpjlggpiaaDoorTie.lean); close each card by the builder's one call (the guide's Derived/Test/ToyasCard.lean, 'card_holds'). Laid BY PROGRAM, IN A SANDBOX (cutbox-door.mjs). By AI agents, Wed Nov 11 2026. No macro, syntax, notation, axiom, sorry.
-/
import Derived.Test.YtgmjhlpjlggpiaaDoorRows
import GoSem.ClaimSeven
namespace Go.Proofs.YtgmjhlpjlggpiaaDoor
namespace Rows

/-- THE TIED CARD OF 'maskkeep4.GlobalRoutes'. -/
def globalRoutesCard : Claim7 := { stood := { row := globalRoutesRow, standIns := [], harness := (true, "8a2209a431e427754e46b06525e97aad1efd2e68e9d9780f8d936b9a34868866"), looks := true }, kinds := [], alts := [], laidByText := true, laidKinds := [.data, .data, .data], laidTests := true, laidLooks := .later }
def GlobalRoutesCardSaid : Prop := Claim7.holds Tryd.pinned (.plain (OpenSpec.ofChange globalRoutesSpec)) globalRoutesCard

/-- THE SECOND FORM's CARD OF 'maskkeep4.GlobalRoutes'. -/
def globalRoutesUptoCard : Claim7 := { stood := { row := globalRoutesUptoRow, standIns := [], harness := (true, "8a2209a431e427754e46b06525e97aad1efd2e68e9d9780f8d936b9a34868866"), looks := true }, kinds := [], alts := [], laidByText := true, laidKinds := [.data, .data, .data], laidTests := true, laidLooks := .later }
def GlobalRoutesUptoCardSaid : Prop := Claim7.holds Tryd.pinned (.plain (OpenSpec.upto globalRoutesSpec)) globalRoutesUptoCard
end Rows
end Go.Proofs.YtgmjhlpjlggpiaaDoor
