/-
  DERIVED. GIVEN WITH THE SEED: THE CARDS: each row of YtclhfemcinibmaaDoorRows.lean that lists a variable, with what it lists TIED to the program's text (the seventh form; the later family's looks); each row that meets fmt, with fmt's text TOLD by the authors' own Lean function (tested against real Go, not proved from fmt's source: count such statements apart). THE CARD IS WHAT COUNTS. Prove the row's statement (the work); the ties are given (YtclhfemcinibmaaDoorTie.lean); close each card by the builder's one call (the guide's Derived/Test/ToyasCard.lean, 'card_holds'). Laid BY PROGRAM, IN A SANDBOX (cutbox-door.mjs). By AI agents, Wed Nov 11 2026. No macro, syntax, notation, axiom, sorry.
-/
import Derived.Test.YtclhfemcinibmaaDoorRows
import GoSem.ClaimSeven
namespace Go.Proofs.YtclhfemcinibmaaDoor
namespace Rows

/-- THE TIED CARD OF 'maskkeep4.EcoKeeps'. -/
def ecoKeepsCard : Claim7 := { stood := { row := ecoKeepsRow, standIns := [], harness := (true, "d8a64fb1a755ed8cc0426523f2d9c8c8b28a3cd711c34baf9c9b38a99fc99e0d"), looks := true }, kinds := [], alts := [], laidByText := true, laidKinds := [.data, .data, .data], laidTests := true, laidLooks := .later }
def EcoKeepsCardSaid : Prop := Claim7.holds Tryd.pinned (.plain (OpenSpec.ofChange ecoKeepsSpec)) ecoKeepsCard

/-- THE TIED CARD OF 'maskkeep4.FloorPlans'. -/
def floorPlansCard : Claim7 := { stood := { row := floorPlansRow, standIns := [], harness := (true, "d8a64fb1a755ed8cc0426523f2d9c8c8b28a3cd711c34baf9c9b38a99fc99e0d"), looks := true }, kinds := [], alts := [], laidByText := true, laidKinds := [.data, .data, .data], laidTests := true, laidLooks := .later }
def FloorPlansCardSaid : Prop := Claim7.holds Tryd.pinned (.plain (OpenSpec.ofChange floorPlansSpec)) floorPlansCard

/-- THE TIED CARD OF 'maskkeep4.LegalPlaces'. -/
def legalPlacesCard : Claim7 := { stood := { row := legalPlacesRow, standIns := [], harness := (true, "d8a64fb1a755ed8cc0426523f2d9c8c8b28a3cd711c34baf9c9b38a99fc99e0d"), looks := true }, kinds := [], alts := [], laidByText := true, laidKinds := [.data, .data, .data], laidTests := true, laidLooks := .later }
def LegalPlacesCardSaid : Prop := Claim7.holds Tryd.pinned (.plain (OpenSpec.ofChange legalPlacesSpec)) legalPlacesCard

/-- THE TIED CARD OF 'maskkeep4.TimingPeriod'. -/
def timingPeriodCard : Claim7 := { stood := { row := timingPeriodRow, standIns := [], harness := (true, "d8a64fb1a755ed8cc0426523f2d9c8c8b28a3cd711c34baf9c9b38a99fc99e0d"), looks := true }, kinds := [], alts := [], laidByText := true, laidKinds := [.data, .data, .data], laidTests := true, laidLooks := .later }
def TimingPeriodCardSaid : Prop := Claim7.holds Tryd.pinned (.plain (OpenSpec.ofChange timingPeriodSpec)) timingPeriodCard

/-- THE TIED CARD OF 'maskkeep4.TimingWider'. -/
def timingWiderCard : Claim7 := { stood := { row := timingWiderRow, standIns := [], harness := (true, "d8a64fb1a755ed8cc0426523f2d9c8c8b28a3cd711c34baf9c9b38a99fc99e0d"), looks := true }, kinds := [], alts := [], laidByText := true, laidKinds := [.data, .data, .data], laidTests := true, laidLooks := .later }
def TimingWiderCardSaid : Prop := Claim7.holds Tryd.pinned (.plain (OpenSpec.ofChange timingWiderSpec)) timingWiderCard

/-- THE TIED CARD OF 'maskkeep4.GlobalRoutes'. -/
def globalRoutesCard : Claim7 := { stood := { row := globalRoutesRow, standIns := [], harness := (true, "d8a64fb1a755ed8cc0426523f2d9c8c8b28a3cd711c34baf9c9b38a99fc99e0d"), looks := true }, kinds := [], alts := [], laidByText := true, laidKinds := [.data, .data, .data], laidTests := true, laidLooks := .later }
def GlobalRoutesCardSaid : Prop := Claim7.holds Tryd.pinned (.plain (OpenSpec.ofChange globalRoutesSpec)) globalRoutesCard

/-- THE TIED CARD OF 'maskkeep4.TimingAlong'. -/
def timingAlongCard : Claim7 := { stood := { row := timingAlongRow, standIns := [], harness := (true, "d8a64fb1a755ed8cc0426523f2d9c8c8b28a3cd711c34baf9c9b38a99fc99e0d"), looks := true }, kinds := [], alts := [], laidByText := true, laidKinds := [.data, .data, .data], laidTests := true, laidLooks := .later }
def TimingAlongCardSaid : Prop := Claim7.holds Tryd.pinned (.plain (OpenSpec.ofChange timingAlongSpec)) timingAlongCard

/-- THE TIED CARD OF 'maskkeep4.ClocksBack'. -/
def clocksBackCard : Claim7 := { stood := { row := clocksBackRow, standIns := [], harness := (true, "d8a64fb1a755ed8cc0426523f2d9c8c8b28a3cd711c34baf9c9b38a99fc99e0d"), looks := true }, kinds := [], alts := [], laidByText := true, laidKinds := [.data, .data, .data, .data, .sentinel, .sentinel, .pinned], laidTests := true, laidLooks := .later }
def ClocksBackCardSaid : Prop := Claim7.holds Tryd.pinned (.plain (OpenSpec.ofChange clocksBackSpec)) clocksBackCard

/-- THE TIED CARD OF 'maskkeep4.LayfmtFaults'. -/
def layfmtFaultsCard : Claim7 := { stood := { row := layfmtFaultsRow, standIns := [], harness := (true, "d8a64fb1a755ed8cc0426523f2d9c8c8b28a3cd711c34baf9c9b38a99fc99e0d"), looks := true }, kinds := [], alts := [], laidByText := true, laidKinds := [.data, .data, .data, .data, .sentinel, .sentinel, .pinned], laidTests := true, laidLooks := .later }
def LayfmtFaultsCardSaid : Prop := Claim7.holds Tryd.pinned (.plain (OpenSpec.ofChange layfmtFaultsSpec)) layfmtFaultsCard

/-- THE SECOND FORM's CARD OF 'maskkeep4.EcoKeeps'. -/
def ecoKeepsUptoCard : Claim7 := { stood := { row := ecoKeepsUptoRow, standIns := [], harness := (true, "d8a64fb1a755ed8cc0426523f2d9c8c8b28a3cd711c34baf9c9b38a99fc99e0d"), looks := true }, kinds := [], alts := [], laidByText := true, laidKinds := [.data, .data, .data], laidTests := true, laidLooks := .later }
def EcoKeepsUptoCardSaid : Prop := Claim7.holds Tryd.pinned (.plain (OpenSpec.upto ecoKeepsSpec)) ecoKeepsUptoCard

/-- THE SECOND FORM's CARD OF 'maskkeep4.FloorPlans'. -/
def floorPlansUptoCard : Claim7 := { stood := { row := floorPlansUptoRow, standIns := [], harness := (true, "d8a64fb1a755ed8cc0426523f2d9c8c8b28a3cd711c34baf9c9b38a99fc99e0d"), looks := true }, kinds := [], alts := [], laidByText := true, laidKinds := [.data, .data, .data], laidTests := true, laidLooks := .later }
def FloorPlansUptoCardSaid : Prop := Claim7.holds Tryd.pinned (.plain (OpenSpec.upto floorPlansSpec)) floorPlansUptoCard

/-- THE SECOND FORM's CARD OF 'maskkeep4.LegalPlaces'. -/
def legalPlacesUptoCard : Claim7 := { stood := { row := legalPlacesUptoRow, standIns := [], harness := (true, "d8a64fb1a755ed8cc0426523f2d9c8c8b28a3cd711c34baf9c9b38a99fc99e0d"), looks := true }, kinds := [], alts := [], laidByText := true, laidKinds := [.data, .data, .data], laidTests := true, laidLooks := .later }
def LegalPlacesUptoCardSaid : Prop := Claim7.holds Tryd.pinned (.plain (OpenSpec.upto legalPlacesSpec)) legalPlacesUptoCard

/-- THE SECOND FORM's CARD OF 'maskkeep4.TimingPeriod'. -/
def timingPeriodUptoCard : Claim7 := { stood := { row := timingPeriodUptoRow, standIns := [], harness := (true, "d8a64fb1a755ed8cc0426523f2d9c8c8b28a3cd711c34baf9c9b38a99fc99e0d"), looks := true }, kinds := [], alts := [], laidByText := true, laidKinds := [.data, .data, .data], laidTests := true, laidLooks := .later }
def TimingPeriodUptoCardSaid : Prop := Claim7.holds Tryd.pinned (.plain (OpenSpec.upto timingPeriodSpec)) timingPeriodUptoCard

/-- THE SECOND FORM's CARD OF 'maskkeep4.TimingWider'. -/
def timingWiderUptoCard : Claim7 := { stood := { row := timingWiderUptoRow, standIns := [], harness := (true, "d8a64fb1a755ed8cc0426523f2d9c8c8b28a3cd711c34baf9c9b38a99fc99e0d"), looks := true }, kinds := [], alts := [], laidByText := true, laidKinds := [.data, .data, .data], laidTests := true, laidLooks := .later }
def TimingWiderUptoCardSaid : Prop := Claim7.holds Tryd.pinned (.plain (OpenSpec.upto timingWiderSpec)) timingWiderUptoCard

/-- THE SECOND FORM's CARD OF 'maskkeep4.GlobalRoutes'. -/
def globalRoutesUptoCard : Claim7 := { stood := { row := globalRoutesUptoRow, standIns := [], harness := (true, "d8a64fb1a755ed8cc0426523f2d9c8c8b28a3cd711c34baf9c9b38a99fc99e0d"), looks := true }, kinds := [], alts := [], laidByText := true, laidKinds := [.data, .data, .data], laidTests := true, laidLooks := .later }
def GlobalRoutesUptoCardSaid : Prop := Claim7.holds Tryd.pinned (.plain (OpenSpec.upto globalRoutesSpec)) globalRoutesUptoCard

/-- THE SECOND FORM's CARD OF 'maskkeep4.TimingAlong'. -/
def timingAlongUptoCard : Claim7 := { stood := { row := timingAlongUptoRow, standIns := [], harness := (true, "d8a64fb1a755ed8cc0426523f2d9c8c8b28a3cd711c34baf9c9b38a99fc99e0d"), looks := true }, kinds := [], alts := [], laidByText := true, laidKinds := [.data, .data, .data], laidTests := true, laidLooks := .later }
def TimingAlongUptoCardSaid : Prop := Claim7.holds Tryd.pinned (.plain (OpenSpec.upto timingAlongSpec)) timingAlongUptoCard

/-- THE SECOND FORM's CARD OF 'maskkeep4.ClocksBack'. -/
def clocksBackUptoCard : Claim7 := { stood := { row := clocksBackUptoRow, standIns := [], harness := (true, "d8a64fb1a755ed8cc0426523f2d9c8c8b28a3cd711c34baf9c9b38a99fc99e0d"), looks := true }, kinds := [], alts := [], laidByText := true, laidKinds := [.data, .data, .data, .data, .sentinel, .sentinel, .pinned], laidTests := true, laidLooks := .later }
def ClocksBackUptoCardSaid : Prop := Claim7.holds Tryd.pinned (.plain (OpenSpec.upto clocksBackSpec)) clocksBackUptoCard

/-- THE SECOND FORM's CARD OF 'maskkeep4.LayfmtFaults'. -/
def layfmtFaultsUptoCard : Claim7 := { stood := { row := layfmtFaultsUptoRow, standIns := [], harness := (true, "d8a64fb1a755ed8cc0426523f2d9c8c8b28a3cd711c34baf9c9b38a99fc99e0d"), looks := true }, kinds := [], alts := [], laidByText := true, laidKinds := [.data, .data, .data, .data, .sentinel, .sentinel, .pinned], laidTests := true, laidLooks := .later }
def LayfmtFaultsUptoCardSaid : Prop := Claim7.holds Tryd.pinned (.plain (OpenSpec.upto layfmtFaultsSpec)) layfmtFaultsUptoCard
end Rows
end Go.Proofs.YtclhfemcinibmaaDoor
