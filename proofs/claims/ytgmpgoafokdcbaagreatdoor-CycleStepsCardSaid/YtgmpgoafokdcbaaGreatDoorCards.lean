/-
  DERIVED. GIVEN WITH THE SEED: THE CARDS: each row of YtgmpgoafokdcbaaGreatDoorRows.lean that lists a variable, with what it lists TIED to the program's text (the seventh form; the later family's looks); each row that meets fmt, with fmt's text TOLD by the authors' own Lean function (tested against real Go, not proved from fmt's source: count such statements apart). THE CARD IS WHAT COUNTS. Prove the row's statement (the work); the ties are given (YtgmpgoafokdcbaaGreatDoorTie.lean); close each card by the builder's one call (the guide's Derived/Test/ToyasCard.lean, 'card_holds'). Laid BY PROGRAM, IN A SANDBOX (cutbox-door.mjs). By AI agents, Wed Nov 11 2026. No macro, syntax, notation, axiom, sorry.
-/
import Derived.Test.YtgmpgoafokdcbaaGreatDoorRows
import GoSem.ClaimSeven
namespace Go.Proofs.YtgmpgoafokdcbaaGreatDoor
namespace Rows

/-- THE TIED CARD OF 'retargetlaw16.CycleNames'. -/
def cycleNamesCard : Claim7 := { stood := { row := cycleNamesRow, standIns := [], harness := (true, "cbbecc090e8c53ed0cd795bd471c59be88c8611c7873122a71ec34ee8208b34b"), looks := false }, kinds := [], alts := [], laidByText := true, laidKinds := [.data], laidTests := true, laidLooks := .later }
def CycleNamesCardSaid : Prop := Claim7.holds Tryz.pinned (.plain (OpenSpec.ofChange cycleNamesSpec)) cycleNamesCard

/-- THE TIED CARD OF 'retargetlaw16.CycleLeast'. -/
def cycleLeastCard : Claim7 := { stood := { row := cycleLeastRow, standIns := [], harness := (true, "cbbecc090e8c53ed0cd795bd471c59be88c8611c7873122a71ec34ee8208b34b"), looks := false }, kinds := [], alts := [], laidByText := true, laidKinds := [.data], laidTests := true, laidLooks := .later }
def CycleLeastCardSaid : Prop := Claim7.holds Tryz.pinned (.plain (OpenSpec.ofChange cycleLeastSpec)) cycleLeastCard

/-- THE TIED CARD OF 'retargetlaw16.CycleTight'. -/
def cycleTightCard : Claim7 := { stood := { row := cycleTightRow, standIns := [], harness := (true, "cbbecc090e8c53ed0cd795bd471c59be88c8611c7873122a71ec34ee8208b34b"), looks := false }, kinds := [], alts := [], laidByText := true, laidKinds := [.data], laidTests := true, laidLooks := .later }
def CycleTightCardSaid : Prop := Claim7.holds Tryz.pinned (.plain (OpenSpec.ofChange cycleTightSpec)) cycleTightCard

/-- THE TIED CARD OF 'retargetlaw16.CycleSteps'. -/
def cycleStepsCard : Claim7 := { stood := { row := cycleStepsRow, standIns := [], harness := (true, "cbbecc090e8c53ed0cd795bd471c59be88c8611c7873122a71ec34ee8208b34b"), looks := false }, kinds := [], alts := [], laidByText := true, laidKinds := [.data], laidTests := true, laidLooks := .later }
def CycleStepsCardSaid : Prop := Claim7.holds Tryz.pinned (.plain (OpenSpec.ofChange cycleStepsSpec)) cycleStepsCard

/-- THE TIED CARD OF 'retargetlaw16.CycleGrows'. -/
def cycleGrowsCard : Claim7 := { stood := { row := cycleGrowsRow, standIns := [], harness := (true, "cbbecc090e8c53ed0cd795bd471c59be88c8611c7873122a71ec34ee8208b34b"), looks := false }, kinds := [], alts := [], laidByText := true, laidKinds := [.data], laidTests := true, laidLooks := .later }
def CycleGrowsCardSaid : Prop := Claim7.holds Tryz.pinned (.plain (OpenSpec.ofChange cycleGrowsSpec)) cycleGrowsCard

/-- THE SECOND FORM's CARD OF 'retargetlaw16.CycleNames'. -/
def cycleNamesUptoCard : Claim7 := { stood := { row := cycleNamesUptoRow, standIns := [], harness := (true, "cbbecc090e8c53ed0cd795bd471c59be88c8611c7873122a71ec34ee8208b34b"), looks := false }, kinds := [], alts := [], laidByText := true, laidKinds := [.data], laidTests := true, laidLooks := .later }
def CycleNamesUptoCardSaid : Prop := Claim7.holds Tryz.pinned (.plain (OpenSpec.upto cycleNamesSpec)) cycleNamesUptoCard

/-- THE SECOND FORM's CARD OF 'retargetlaw16.CycleLeast'. -/
def cycleLeastUptoCard : Claim7 := { stood := { row := cycleLeastUptoRow, standIns := [], harness := (true, "cbbecc090e8c53ed0cd795bd471c59be88c8611c7873122a71ec34ee8208b34b"), looks := false }, kinds := [], alts := [], laidByText := true, laidKinds := [.data], laidTests := true, laidLooks := .later }
def CycleLeastUptoCardSaid : Prop := Claim7.holds Tryz.pinned (.plain (OpenSpec.upto cycleLeastSpec)) cycleLeastUptoCard

/-- THE SECOND FORM's CARD OF 'retargetlaw16.CycleTight'. -/
def cycleTightUptoCard : Claim7 := { stood := { row := cycleTightUptoRow, standIns := [], harness := (true, "cbbecc090e8c53ed0cd795bd471c59be88c8611c7873122a71ec34ee8208b34b"), looks := false }, kinds := [], alts := [], laidByText := true, laidKinds := [.data], laidTests := true, laidLooks := .later }
def CycleTightUptoCardSaid : Prop := Claim7.holds Tryz.pinned (.plain (OpenSpec.upto cycleTightSpec)) cycleTightUptoCard

/-- THE SECOND FORM's CARD OF 'retargetlaw16.CycleSteps'. -/
def cycleStepsUptoCard : Claim7 := { stood := { row := cycleStepsUptoRow, standIns := [], harness := (true, "cbbecc090e8c53ed0cd795bd471c59be88c8611c7873122a71ec34ee8208b34b"), looks := false }, kinds := [], alts := [], laidByText := true, laidKinds := [.data], laidTests := true, laidLooks := .later }
def CycleStepsUptoCardSaid : Prop := Claim7.holds Tryz.pinned (.plain (OpenSpec.upto cycleStepsSpec)) cycleStepsUptoCard

/-- THE SECOND FORM's CARD OF 'retargetlaw16.CycleGrows'. -/
def cycleGrowsUptoCard : Claim7 := { stood := { row := cycleGrowsUptoRow, standIns := [], harness := (true, "cbbecc090e8c53ed0cd795bd471c59be88c8611c7873122a71ec34ee8208b34b"), looks := false }, kinds := [], alts := [], laidByText := true, laidKinds := [.data], laidTests := true, laidLooks := .later }
def CycleGrowsUptoCardSaid : Prop := Claim7.holds Tryz.pinned (.plain (OpenSpec.upto cycleGrowsSpec)) cycleGrowsUptoCard
end Rows
end Go.Proofs.YtgmpgoafokdcbaaGreatDoor
