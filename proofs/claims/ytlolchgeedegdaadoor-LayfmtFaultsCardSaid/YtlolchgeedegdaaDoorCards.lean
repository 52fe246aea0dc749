/-
  DERIVED. GIVEN WITH THE SEED: THE CARDS: each row of YtlolchgeedegdaaDoorRows.lean that lists a variable, with what it lists TIED to the program's text (the seventh form; the later family's looks); each row that meets fmt, with fmt's text TOLD by the authors' own Lean function (tested against real Go, not proved from fmt's source: count such statements apart). THE CARD IS WHAT COUNTS. Prove the row's statement (the work); the ties are given (YtlolchgeedegdaaDoorTie.lean); close each card by the builder's one call (the guide's Derived/Test/ToyasCard.lean, 'card_holds'). Laid BY PROGRAM, IN A SANDBOX (cutbox-door.mjs). By AI agents, Wed Nov 11 2026. No macro, syntax, notation, axiom, sorry.
-/
import Derived.Test.YtlolchgeedegdaaDoorRows
import GoSem.ClaimSeven
namespace Go.Proofs.YtlolchgeedegdaaDoor
namespace Rows

/-- THE TIED CARD OF 'maskkeep4.EcoKeeps'. -/
def ecoKeepsCard : Claim7 := { stood := { row := ecoKeepsRow, standIns := [], harness := (true, "f95b8db2ce2fdc669f5d070c05191047e933306018b833facc2291432e373c7f"), looks := true }, kinds := [], alts := [], laidByText := true, laidKinds := [.data, .data, .data], laidTests := true, laidLooks := .later }
def EcoKeepsCardSaid : Prop := Claim7.holds Tryd.pinned (.plain (OpenSpec.ofChange ecoKeepsSpec)) ecoKeepsCard

/-- THE TIED CARD OF 'maskkeep4.TimingPeriod'. -/
def timingPeriodCard : Claim7 := { stood := { row := timingPeriodRow, standIns := [], harness := (true, "f95b8db2ce2fdc669f5d070c05191047e933306018b833facc2291432e373c7f"), looks := true }, kinds := [], alts := [], laidByText := true, laidKinds := [.data, .data, .data], laidTests := true, laidLooks := .later }
def TimingPeriodCardSaid : Prop := Claim7.holds Tryd.pinned (.plain (OpenSpec.ofChange timingPeriodSpec)) timingPeriodCard

/-- THE TIED CARD OF 'maskkeep4.TimingWider'. -/
def timingWiderCard : Claim7 := { stood := { row := timingWiderRow, standIns := [], harness := (true, "f95b8db2ce2fdc669f5d070c05191047e933306018b833facc2291432e373c7f"), looks := true }, kinds := [], alts := [], laidByText := true, laidKinds := [.data, .data, .data], laidTests := true, laidLooks := .later }
def TimingWiderCardSaid : Prop := Claim7.holds Tryd.pinned (.plain (OpenSpec.ofChange timingWiderSpec)) timingWiderCard

/-- THE TIED CARD OF 'maskkeep4.TimingAlong'. -/
def timingAlongCard : Claim7 := { stood := { row := timingAlongRow, standIns := [], harness := (true, "f95b8db2ce2fdc669f5d070c05191047e933306018b833facc2291432e373c7f"), looks := true }, kinds := [], alts := [], laidByText := true, laidKinds := [.data, .data, .data], laidTests := true, laidLooks := .later }
def TimingAlongCardSaid : Prop := Claim7.holds Tryd.pinned (.plain (OpenSpec.ofChange timingAlongSpec)) timingAlongCard

/-- THE TIED CARD OF 'maskkeep4.ClocksBack'. -/
def clocksBackCard : Claim7 := { stood := { row := clocksBackRow, standIns := [], harness := (true, "f95b8db2ce2fdc669f5d070c05191047e933306018b833facc2291432e373c7f"), looks := true }, kinds := [], alts := [], laidByText := true, laidKinds := [.data, .data, .data, .data, .sentinel, .sentinel, .pinned], laidTests := true, laidLooks := .later }
def ClocksBackCardSaid : Prop := Claim7.holds Tryd.pinned (.plain (OpenSpec.ofChange clocksBackSpec)) clocksBackCard

/-- THE TIED CARD OF 'maskkeep4.ClocksLines'. -/
def clocksLinesCard : Claim7 := { stood := { row := clocksLinesRow, standIns := [], harness := (true, "f95b8db2ce2fdc669f5d070c05191047e933306018b833facc2291432e373c7f"), looks := true }, kinds := [], alts := [], laidByText := true, laidKinds := [.data, .data, .data, .data, .sentinel, .sentinel, .pinned], laidTests := true, laidLooks := .later }
def ClocksLinesCardSaid : Prop := Claim7.holds Tryd.pinned (.plain (OpenSpec.ofChange clocksLinesSpec)) clocksLinesCard

/-- THE TIED CARD OF 'maskkeep4.LayfmtBack'. -/
def layfmtBackCard : Claim7 := { stood := { row := layfmtBackRow, standIns := [], harness := (true, "f95b8db2ce2fdc669f5d070c05191047e933306018b833facc2291432e373c7f"), looks := true }, kinds := [], alts := [], laidByText := true, laidKinds := [.data, .data, .data, .data, .sentinel, .sentinel, .pinned], laidTests := true, laidLooks := .later }
def LayfmtBackCardSaid : Prop := Claim7.holds Tryd.pinned (.plain (OpenSpec.ofChange layfmtBackSpec)) layfmtBackCard

/-- THE TIED CARD OF 'maskkeep4.LayfmtFaults'. -/
def layfmtFaultsCard : Claim7 := { stood := { row := layfmtFaultsRow, standIns := [], harness := (true, "f95b8db2ce2fdc669f5d070c05191047e933306018b833facc2291432e373c7f"), looks := true }, kinds := [], alts := [], laidByText := true, laidKinds := [.data, .data, .data, .data, .sentinel, .sentinel, .pinned], laidTests := true, laidLooks := .later }
def LayfmtFaultsCardSaid : Prop := Claim7.holds Tryd.pinned (.plain (OpenSpec.ofChange layfmtFaultsSpec)) layfmtFaultsCard

/-- THE SECOND FORM's CARD OF 'maskkeep4.EcoKeeps'. -/
def ecoKeepsUptoCard : Claim7 := { stood := { row := ecoKeepsUptoRow, standIns := [], harness := (true, "f95b8db2ce2fdc669f5d070c05191047e933306018b833facc2291432e373c7f"), looks := true }, kinds := [], alts := [], laidByText := true, laidKinds := [.data, .data, .data], laidTests := true, laidLooks := .later }
def EcoKeepsUptoCardSaid : Prop := Claim7.holds Tryd.pinned (.plain (OpenSpec.upto ecoKeepsSpec)) ecoKeepsUptoCard

/-- THE SECOND FORM's CARD OF 'maskkeep4.TimingPeriod'. -/
def timingPeriodUptoCard : Claim7 := { stood := { row := timingPeriodUptoRow, standIns := [], harness := (true, "f95b8db2ce2fdc669f5d070c05191047e933306018b833facc2291432e373c7f"), looks := true }, kinds := [], alts := [], laidByText := true, laidKinds := [.data, .data, .data], laidTests := true, laidLooks := .later }
def TimingPeriodUptoCardSaid : Prop := Claim7.holds Tryd.pinned (.plain (OpenSpec.upto timingPeriodSpec)) timingPeriodUptoCard

/-- THE SECOND FORM's CARD OF 'maskkeep4.TimingWider'. -/
def timingWiderUptoCard : Claim7 := { stood := { row := timingWiderUptoRow, standIns := [], harness := (true, "f95b8db2ce2fdc669f5d070c05191047e933306018b833facc2291432e373c7f"), looks := true }, kinds := [], alts := [], laidByText := true, laidKinds := [.data, .data, .data], laidTests := true, laidLooks := .later }
def TimingWiderUptoCardSaid : Prop := Claim7.holds Tryd.pinned (.plain (OpenSpec.upto timingWiderSpec)) timingWiderUptoCard

/-- THE SECOND FORM's CARD OF 'maskkeep4.TimingAlong'. -/
def timingAlongUptoCard : Claim7 := { stood := { row := timingAlongUptoRow, standIns := [], harness := (true, "f95b8db2ce2fdc669f5d070c05191047e933306018b833facc2291432e373c7f"), looks := true }, kinds := [], alts := [], laidByText := true, laidKinds := [.data, .data, .data], laidTests := true, laidLooks := .later }
def TimingAlongUptoCardSaid : Prop := Claim7.holds Tryd.pinned (.plain (OpenSpec.upto timingAlongSpec)) timingAlongUptoCard

/-- THE SECOND FORM's CARD OF 'maskkeep4.ClocksBack'. -/
def clocksBackUptoCard : Claim7 := { stood := { row := clocksBackUptoRow, standIns := [], harness := (true, "f95b8db2ce2fdc669f5d070c05191047e933306018b833facc2291432e373c7f"), looks := true }, kinds := [], alts := [], laidByText := true, laidKinds := [.data, .data, .data, .data, .sentinel, .sentinel, .pinned], laidTests := true, laidLooks := .later }
def ClocksBackUptoCardSaid : Prop := Claim7.holds Tryd.pinned (.plain (OpenSpec.upto clocksBackSpec)) clocksBackUptoCard

/-- THE SECOND FORM's CARD OF 'maskkeep4.ClocksLines'. -/
def clocksLinesUptoCard : Claim7 := { stood := { row := clocksLinesUptoRow, standIns := [], harness := (true, "f95b8db2ce2fdc669f5d070c05191047e933306018b833facc2291432e373c7f"), looks := true }, kinds := [], alts := [], laidByText := true, laidKinds := [.data, .data, .data, .data, .sentinel, .sentinel, .pinned], laidTests := true, laidLooks := .later }
def ClocksLinesUptoCardSaid : Prop := Claim7.holds Tryd.pinned (.plain (OpenSpec.upto clocksLinesSpec)) clocksLinesUptoCard

/-- THE SECOND FORM's CARD OF 'maskkeep4.LayfmtBack'. -/
def layfmtBackUptoCard : Claim7 := { stood := { row := layfmtBackUptoRow, standIns := [], harness := (true, "f95b8db2ce2fdc669f5d070c05191047e933306018b833facc2291432e373c7f"), looks := true }, kinds := [], alts := [], laidByText := true, laidKinds := [.data, .data, .data, .data, .sentinel, .sentinel, .pinned], laidTests := true, laidLooks := .later }
def LayfmtBackUptoCardSaid : Prop := Claim7.holds Tryd.pinned (.plain (OpenSpec.upto layfmtBackSpec)) layfmtBackUptoCard

/-- THE SECOND FORM's CARD OF 'maskkeep4.LayfmtFaults'. -/
def layfmtFaultsUptoCard : Claim7 := { stood := { row := layfmtFaultsUptoRow, standIns := [], harness := (true, "f95b8db2ce2fdc669f5d070c05191047e933306018b833facc2291432e373c7f"), looks := true }, kinds := [], alts := [], laidByText := true, laidKinds := [.data, .data, .data, .data, .sentinel, .sentinel, .pinned], laidTests := true, laidLooks := .later }
def LayfmtFaultsUptoCardSaid : Prop := Claim7.holds Tryd.pinned (.plain (OpenSpec.upto layfmtFaultsSpec)) layfmtFaultsUptoCard
end Rows
end Go.Proofs.YtlolchgeedegdaaDoor
