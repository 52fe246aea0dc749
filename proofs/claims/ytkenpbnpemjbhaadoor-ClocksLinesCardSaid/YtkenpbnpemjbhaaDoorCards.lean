/-
  DERIVED. GIVEN WITH THE SEED: THE CARDS: each row of YtkenpbnpemjbhaaDoorRows.lean that lists a variable, with what it lists TIED to the program's text (the seventh form; the later family's looks); each row that meets fmt, with fmt's text TOLD by the authors' own Lean function (tested against real Go, not proved from fmt's source: count such statements apart). THE CARD IS WHAT COUNTS. Prove the row's statement (the work); the ties are given (YtkenpbnpemjbhaaDoorTie.lean); close each card by the builder's one call (the guide's Derived/Test/ToyasCard.lean, 'card_holds'). Laid BY PROGRAM, IN A SANDBOX (cutbox-door.mjs). By AI agents, Wed Nov 11 2026. No macro, syntax, notation, axiom, sorry.
-/
import Derived.Test.YtkenpbnpemjbhaaDoorRows
import GoSem.ClaimSeven
namespace Go.Proofs.YtkenpbnpemjbhaaDoor
namespace Rows

/-- THE TIED CARD OF 'maskkeep4.ClocksLines'. -/
def clocksLinesCard : Claim7 := { stood := { row := clocksLinesRow, standIns := [], harness := (true, "f5a73bea00b403feea3413ae2aa718ee969fa0ce01e64f7183d89793c320733c"), looks := true }, kinds := [], alts := [], laidByText := true, laidKinds := [.data, .data, .data, .data, .sentinel, .sentinel, .pinned], laidTests := true, laidLooks := .later }
def ClocksLinesCardSaid : Prop := Claim7.holds Tryd.pinned (.plain (OpenSpec.ofChange clocksLinesSpec)) clocksLinesCard

/-- THE SECOND FORM's CARD OF 'maskkeep4.ClocksLines'. -/
def clocksLinesUptoCard : Claim7 := { stood := { row := clocksLinesUptoRow, standIns := [], harness := (true, "f5a73bea00b403feea3413ae2aa718ee969fa0ce01e64f7183d89793c320733c"), looks := true }, kinds := [], alts := [], laidByText := true, laidKinds := [.data, .data, .data, .data, .sentinel, .sentinel, .pinned], laidTests := true, laidLooks := .later }
def ClocksLinesUptoCardSaid : Prop := Claim7.holds Tryd.pinned (.plain (OpenSpec.upto clocksLinesSpec)) clocksLinesUptoCard
end Rows
end Go.Proofs.YtkenpbnpemjbhaaDoor
