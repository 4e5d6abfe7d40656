/-
  DERIVED. GIVEN WITH THE SEED: THE CARDS: each row of YtlljmbkfeemgfaaGreatDoorRows.lean that lists a variable, with what it lists TIED to the program's text (the seventh form; the later family's looks); each row that meets fmt, with fmt's text TOLD by the authors' own Lean function (tested against real Go, not proved from fmt's source: count such statements apart). THE CARD IS WHAT COUNTS. Prove the row's statement (the work); the ties are given (YtlljmbkfeemgfaaGreatDoorTie.lean); close each card by the builder's one call (the guide's Derived/Test/ToyasCard.lean, 'card_holds'). Laid BY PROGRAM, IN A SANDBOX (cutbox-door.mjs). By AI agents, Wed Nov 11 2026. No macro, syntax, notation, axiom, sorry.
-/
import Derived.Test.YtlljmbkfeemgfaaGreatDoorRows
import GoSem.ClaimSeven
namespace Go.Proofs.YtlljmbkfeemgfaaGreatDoor
namespace Rows

/-- THE TIED CARD OF 'escapementlaw28.MachineAgain'. -/
def machineAgainCard : Claim7 := { stood := { row := machineAgainRow, standIns := [], harness := (true, "908bfa8c96d9a1b4445ce54fc138ee841fd59bcbfee00fc6cf1abca737bc7973"), looks := true }, kinds := [], alts := [], laidByText := true, laidKinds := [.data], laidTests := true, laidLooks := .later }
def MachineAgainCardSaid : Prop := Claim7.holds Tryz.pinned (.plain (OpenSpec.ofChange machineAgainSpec)) machineAgainCard

/-- THE TIED CARD OF 'escapementlaw28.MachineStopped'. -/
def machineStoppedCard : Claim7 := { stood := { row := machineStoppedRow, standIns := [], harness := (true, "908bfa8c96d9a1b4445ce54fc138ee841fd59bcbfee00fc6cf1abca737bc7973"), looks := true }, kinds := [], alts := [], laidByText := true, laidKinds := [.data], laidTests := true, laidLooks := .later }
def MachineStoppedCardSaid : Prop := Claim7.holds Tryz.pinned (.plain (OpenSpec.ofChange machineStoppedSpec)) machineStoppedCard

/-- THE TIED CARD OF 'escapementlaw28.MachinePlaces'. -/
def machinePlacesCard : Claim7 := { stood := { row := machinePlacesRow, standIns := [], harness := (true, "908bfa8c96d9a1b4445ce54fc138ee841fd59bcbfee00fc6cf1abca737bc7973"), looks := true }, kinds := [], alts := [], laidByText := true, laidKinds := [.data], laidTests := true, laidLooks := .later }
def MachinePlacesCardSaid : Prop := Claim7.holds Tryz.pinned (.plain (OpenSpec.ofChange machinePlacesSpec)) machinePlacesCard

/-- THE TIED CARD OF 'escapementlaw28.MachineNils'. -/
def machineNilsCard : Claim7 := { stood := { row := machineNilsRow, standIns := [], harness := (true, "908bfa8c96d9a1b4445ce54fc138ee841fd59bcbfee00fc6cf1abca737bc7973"), looks := true }, kinds := [], alts := [], laidByText := true, laidKinds := [.data], laidTests := true, laidLooks := .later }
def MachineNilsCardSaid : Prop := Claim7.holds Tryz.pinned (.plain (OpenSpec.ofChange machineNilsSpec)) machineNilsCard

/-- THE TIED CARD OF 'escapementlaw41.ShrinkLists'. -/
def shrinkListsCard : Claim7 := { stood := { row := shrinkListsRow, standIns := [], harness := (true, "908bfa8c96d9a1b4445ce54fc138ee841fd59bcbfee00fc6cf1abca737bc7973"), looks := true }, kinds := [], alts := [], laidByText := true, laidKinds := [.data], laidTests := true, laidLooks := .later }
def ShrinkListsCardSaid : Prop := Claim7.holds Tryz.pinned (.plain (OpenSpec.ofChange shrinkListsSpec)) shrinkListsCard

/-- THE TIED CARD OF 'escapementlaw41.ShrinkHolds'. -/
def shrinkHoldsCard : Claim7 := { stood := { row := shrinkHoldsRow, standIns := [], harness := (true, "908bfa8c96d9a1b4445ce54fc138ee841fd59bcbfee00fc6cf1abca737bc7973"), looks := true }, kinds := [], alts := [], laidByText := true, laidKinds := [.data], laidTests := true, laidLooks := .later }
def ShrinkHoldsCardSaid : Prop := Claim7.holds Tryz.pinned (.plain (OpenSpec.ofChange shrinkHoldsSpec)) shrinkHoldsCard

/-- THE TIED CARD OF 'escapementlaw31.FairLeasts'. -/
def fairLeastsCard : Claim7 := { stood := { row := fairLeastsRow, standIns := [], harness := (true, "908bfa8c96d9a1b4445ce54fc138ee841fd59bcbfee00fc6cf1abca737bc7973"), looks := true }, kinds := [], alts := [], laidByText := true, laidKinds := [.data], laidTests := true, laidLooks := .later }
def FairLeastsCardSaid : Prop := Claim7.holds Tryz.pinned (.plain (OpenSpec.ofChange fairLeastsSpec)) fairLeastsCard

/-- THE TIED CARD OF 'escapementlaw41.ShrinkCuts'. -/
def shrinkCutsCard : Claim7 := { stood := { row := shrinkCutsRow, standIns := [], harness := (true, "908bfa8c96d9a1b4445ce54fc138ee841fd59bcbfee00fc6cf1abca737bc7973"), looks := true }, kinds := [], alts := [], laidByText := true, laidKinds := [.data], laidTests := true, laidLooks := .later }
def ShrinkCutsCardSaid : Prop := Claim7.holds Tryz.pinned (.plain (OpenSpec.ofChange shrinkCutsSpec)) shrinkCutsCard

/-- THE TIED CARD OF 'escapementlaw41.ShrinkLong'. -/
def shrinkLongCard : Claim7 := { stood := { row := shrinkLongRow, standIns := [], harness := (true, "908bfa8c96d9a1b4445ce54fc138ee841fd59bcbfee00fc6cf1abca737bc7973"), looks := true }, kinds := [], alts := [], laidByText := true, laidKinds := [.data], laidTests := true, laidLooks := .later }
def ShrinkLongCardSaid : Prop := Claim7.holds Tryz.pinned (.plain (OpenSpec.ofChange shrinkLongSpec)) shrinkLongCard

/-- THE SECOND FORM's CARD OF 'escapementlaw28.MachineAgain'. -/
def machineAgainUptoCard : Claim7 := { stood := { row := machineAgainUptoRow, standIns := [], harness := (true, "908bfa8c96d9a1b4445ce54fc138ee841fd59bcbfee00fc6cf1abca737bc7973"), looks := true }, kinds := [], alts := [], laidByText := true, laidKinds := [.data], laidTests := true, laidLooks := .later }
def MachineAgainUptoCardSaid : Prop := Claim7.holds Tryz.pinned (.plain (OpenSpec.upto machineAgainSpec)) machineAgainUptoCard

/-- THE SECOND FORM's CARD OF 'escapementlaw28.MachineStopped'. -/
def machineStoppedUptoCard : Claim7 := { stood := { row := machineStoppedUptoRow, standIns := [], harness := (true, "908bfa8c96d9a1b4445ce54fc138ee841fd59bcbfee00fc6cf1abca737bc7973"), looks := true }, kinds := [], alts := [], laidByText := true, laidKinds := [.data], laidTests := true, laidLooks := .later }
def MachineStoppedUptoCardSaid : Prop := Claim7.holds Tryz.pinned (.plain (OpenSpec.upto machineStoppedSpec)) machineStoppedUptoCard

/-- THE SECOND FORM's CARD OF 'escapementlaw28.MachinePlaces'. -/
def machinePlacesUptoCard : Claim7 := { stood := { row := machinePlacesUptoRow, standIns := [], harness := (true, "908bfa8c96d9a1b4445ce54fc138ee841fd59bcbfee00fc6cf1abca737bc7973"), looks := true }, kinds := [], alts := [], laidByText := true, laidKinds := [.data], laidTests := true, laidLooks := .later }
def MachinePlacesUptoCardSaid : Prop := Claim7.holds Tryz.pinned (.plain (OpenSpec.upto machinePlacesSpec)) machinePlacesUptoCard

/-- THE SECOND FORM's CARD OF 'escapementlaw28.MachineNils'. -/
def machineNilsUptoCard : Claim7 := { stood := { row := machineNilsUptoRow, standIns := [], harness := (true, "908bfa8c96d9a1b4445ce54fc138ee841fd59bcbfee00fc6cf1abca737bc7973"), looks := true }, kinds := [], alts := [], laidByText := true, laidKinds := [.data], laidTests := true, laidLooks := .later }
def MachineNilsUptoCardSaid : Prop := Claim7.holds Tryz.pinned (.plain (OpenSpec.upto machineNilsSpec)) machineNilsUptoCard

/-- THE SECOND FORM's CARD OF 'escapementlaw41.ShrinkLists'. -/
def shrinkListsUptoCard : Claim7 := { stood := { row := shrinkListsUptoRow, standIns := [], harness := (true, "908bfa8c96d9a1b4445ce54fc138ee841fd59bcbfee00fc6cf1abca737bc7973"), looks := true }, kinds := [], alts := [], laidByText := true, laidKinds := [.data], laidTests := true, laidLooks := .later }
def ShrinkListsUptoCardSaid : Prop := Claim7.holds Tryz.pinned (.plain (OpenSpec.upto shrinkListsSpec)) shrinkListsUptoCard

/-- THE SECOND FORM's CARD OF 'escapementlaw41.ShrinkHolds'. -/
def shrinkHoldsUptoCard : Claim7 := { stood := { row := shrinkHoldsUptoRow, standIns := [], harness := (true, "908bfa8c96d9a1b4445ce54fc138ee841fd59bcbfee00fc6cf1abca737bc7973"), looks := true }, kinds := [], alts := [], laidByText := true, laidKinds := [.data], laidTests := true, laidLooks := .later }
def ShrinkHoldsUptoCardSaid : Prop := Claim7.holds Tryz.pinned (.plain (OpenSpec.upto shrinkHoldsSpec)) shrinkHoldsUptoCard

/-- THE SECOND FORM's CARD OF 'escapementlaw31.FairLeasts'. -/
def fairLeastsUptoCard : Claim7 := { stood := { row := fairLeastsUptoRow, standIns := [], harness := (true, "908bfa8c96d9a1b4445ce54fc138ee841fd59bcbfee00fc6cf1abca737bc7973"), looks := true }, kinds := [], alts := [], laidByText := true, laidKinds := [.data], laidTests := true, laidLooks := .later }
def FairLeastsUptoCardSaid : Prop := Claim7.holds Tryz.pinned (.plain (OpenSpec.upto fairLeastsSpec)) fairLeastsUptoCard

/-- THE SECOND FORM's CARD OF 'escapementlaw41.ShrinkCuts'. -/
def shrinkCutsUptoCard : Claim7 := { stood := { row := shrinkCutsUptoRow, standIns := [], harness := (true, "908bfa8c96d9a1b4445ce54fc138ee841fd59bcbfee00fc6cf1abca737bc7973"), looks := true }, kinds := [], alts := [], laidByText := true, laidKinds := [.data], laidTests := true, laidLooks := .later }
def ShrinkCutsUptoCardSaid : Prop := Claim7.holds Tryz.pinned (.plain (OpenSpec.upto shrinkCutsSpec)) shrinkCutsUptoCard

/-- THE SECOND FORM's CARD OF 'escapementlaw41.ShrinkLong'. -/
def shrinkLongUptoCard : Claim7 := { stood := { row := shrinkLongUptoRow, standIns := [], harness := (true, "908bfa8c96d9a1b4445ce54fc138ee841fd59bcbfee00fc6cf1abca737bc7973"), looks := true }, kinds := [], alts := [], laidByText := true, laidKinds := [.data], laidTests := true, laidLooks := .later }
def ShrinkLongUptoCardSaid : Prop := Claim7.holds Tryz.pinned (.plain (OpenSpec.upto shrinkLongSpec)) shrinkLongUptoCard
end Rows
end Go.Proofs.YtlljmbkfeemgfaaGreatDoor
