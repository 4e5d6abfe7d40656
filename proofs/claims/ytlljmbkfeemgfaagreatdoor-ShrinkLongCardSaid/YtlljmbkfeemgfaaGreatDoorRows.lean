/-
  NARROWER THAN 'FOR EVERY INPUT', by the rows' own cells (each row's printed sentence says how): MachineAgain: laid · MachineStopped: laid · MachinePlaces: laid · MachineNils: laid · ShrinkLists: laid · ShrinkHolds: laid · FairLeasts: laid · ShrinkCuts: laid · ShrinkLong: laid.
  DERIVED. THE GIVEN ROWS OF THIS SEAT. 9 by the template 'for every input the law returns true; each argument reads behind the call as it read before'; 0 by the template 'total and deterministic' (their statements: YtlljmbkfeemgfaaGreatDoorTotals.lean).
  GIVEN WITH THE SEED: the statements are not yours to turn. If you find one false, say at which input.
  Laid BY PROGRAM, IN A SANDBOX (cutbox-rows.mjs): the forced cells as the released guide's own fill.sh prints them over the translation 0d7c6eaccb784562… (all of the seat's roots in one cut). By AI agents, Wed Nov 11 2026. No macro, syntax, notation, axiom, sorry.
-/
import Derived.Test.YtlljmbkfeemgfaaGreatDoorChecked
import GoSem.Claim
import GoSem.ClaimJoined
import GoSem.ClaimMapViews
import Derived.JoinedTies
import Derived.KernelRfl
namespace Go.Proofs.YtlljmbkfeemgfaaGreatDoor
/- THE CELL 'sum', in the pinned program and in every row, IS THE sha256 OF THE DUMP (.gsa) THAT YtlljmbkfeemgfaaGreatDoorProg.lean LOADS. Nothing in Lean hashes anything: it is a label: what it is worth is what the hold of that sum in a sandbox is worth. -/
noncomputable def Tryz.pinned : Pinned := { name := "ytlljmbkfeemgfaagreatdoor", sum := "0d7c6eaccb784562e1ec3c3353387466af0bb9bc0ca29b0aeea620918b9da6b0", checked := Tryz.checked }
namespace Rows
def none {H : Type} : Left H := { results := [], args := [] }

/- WHAT THE LISTED PACKAGE-LEVEL VARIABLES READ AS WHEN THE CALL BEGINS. Each datum BY PROGRAM (the guide's laid-datum.mjs) off the statement by which the dump's own 'gosem.cut.vars' lays the variable. In a bare row this is a premise. The card (YtlljmbkfeemgfaaGreatDoorCards.lean) ties it to the program's text. -/
def laid_escapement_isa_rows {H : Type} : DataW H := .agg [.agg [.lit (.string [110, 111, 112]), .lit (.int .i64 0), .lit (.int .i64 0), .lit (.bool false), .lit (.bool false), .lit (.bool false), .lit (.bool false)], .agg [.lit (.string [99, 111, 110, 115, 116]), .lit (.int .i64 1), .lit (.int .i64 0), .lit (.bool true), .lit (.bool false), .lit (.bool false), .lit (.bool false)], .agg [.lit (.string [97, 100, 100]), .lit (.int .i64 3), .lit (.int .i64 0), .lit (.bool false), .lit (.bool false), .lit (.bool false), .lit (.bool false)], .agg [.lit (.string [115, 117, 98]), .lit (.int .i64 3), .lit (.int .i64 0), .lit (.bool false), .lit (.bool false), .lit (.bool false), .lit (.bool false)], .agg [.lit (.string [109, 117, 108]), .lit (.int .i64 3), .lit (.int .i64 0), .lit (.bool false), .lit (.bool false), .lit (.bool false), .lit (.bool false)], .agg [.lit (.string [108, 101, 115, 115]), .lit (.int .i64 3), .lit (.int .i64 0), .lit (.bool false), .lit (.bool false), .lit (.bool false), .lit (.bool false)], .agg [.lit (.string [106, 117, 109, 112]), .lit (.int .i64 0), .lit (.int .i64 1), .lit (.bool false), .lit (.bool false), .lit (.bool true), .lit (.bool false)], .agg [.lit (.string [105, 102]), .lit (.int .i64 1), .lit (.int .i64 1), .lit (.bool false), .lit (.bool false), .lit (.bool false), .lit (.bool false)], .agg [.lit (.string [99, 97, 108, 108]), .lit (.int .i64 0), .lit (.int .i64 2), .lit (.bool false), .lit (.bool false), .lit (.bool false), .lit (.bool false)], .agg [.lit (.string [114, 101, 116]), .lit (.int .i64 0), .lit (.int .i64 0), .lit (.bool false), .lit (.bool false), .lit (.bool true), .lit (.bool false)], .agg [.lit (.string [115, 112, 97, 119, 110]), .lit (.int .i64 1), .lit (.int .i64 2), .lit (.bool false), .lit (.bool false), .lit (.bool false), .lit (.bool true)], .agg [.lit (.string [121, 105, 101, 108, 100]), .lit (.int .i64 0), .lit (.int .i64 0), .lit (.bool false), .lit (.bool true), .lit (.bool false), .lit (.bool false)], .agg [.lit (.string [98, 108, 111, 99, 107]), .lit (.int .i64 0), .lit (.int .i64 0), .lit (.bool false), .lit (.bool true), .lit (.bool false), .lit (.bool false)], .agg [.lit (.string [114, 101, 97, 100, 121]), .lit (.int .i64 1), .lit (.int .i64 0), .lit (.bool false), .lit (.bool false), .lit (.bool false), .lit (.bool true)], .agg [.lit (.string [101, 120, 105, 116]), .lit (.int .i64 0), .lit (.int .i64 0), .lit (.bool false), .lit (.bool false), .lit (.bool true), .lit (.bool false)], .agg [.lit (.string [101, 109, 105, 116]), .lit (.int .i64 1), .lit (.int .i64 0), .lit (.bool false), .lit (.bool false), .lit (.bool false), .lit (.bool false)], .agg [.lit (.string [115, 121, 115]), .lit (.int .i64 1), .lit (.int .i64 0), .lit (.bool false), .lit (.bool true), .lit (.bool false), .lit (.bool false)], .agg [.lit (.string [115, 116, 111, 112]), .lit (.int .i64 0), .lit (.int .i64 0), .lit (.bool false), .lit (.bool true), .lit (.bool false), .lit (.bool false)], .agg [.lit (.string [115, 116, 97, 114, 116]), .lit (.int .i64 0), .lit (.int .i64 0), .lit (.bool false), .lit (.bool false), .lit (.bool false), .lit (.bool false)], .agg [.lit (.string [98, 97, 114, 114, 105, 101, 114]), .lit (.int .i64 0), .lit (.int .i64 0), .lit (.bool false), .lit (.bool true), .lit (.bool false), .lit (.bool false)], .agg [.lit (.string [115, 117, 115, 112, 101, 110, 100]), .lit (.int .i64 1), .lit (.int .i64 0), .lit (.bool false), .lit (.bool true), .lit (.bool false), .lit (.bool true)], .agg [.lit (.string [114, 101, 115, 117, 109, 101]), .lit (.int .i64 1), .lit (.int .i64 0), .lit (.bool false), .lit (.bool false), .lit (.bool false), .lit (.bool true)], .agg [.lit (.string [114, 101, 115, 105, 122, 101]), .lit (.int .i64 1), .lit (.int .i64 0), .lit (.bool false), .lit (.bool false), .lit (.bool false), .lit (.bool true)], .agg [.lit (.string [115, 101, 108, 102]), .lit (.int .i64 1), .lit (.int .i64 0), .lit (.bool false), .lit (.bool false), .lit (.bool false), .lit (.bool true)]]

/-- 'escapementlaw28.MachineAgain': WHATEVER THE INPUT: true; the input reads as it did. -/
def machineAgainSpec : ChangeSpec := { name := "machineAgain", fn := fun _ => fun
  | [d1, d2, d3] => { results := [.lit (.bool true)], args := [d1, d2, d3] }
  | _ => none }
def machineAgainRow : OpenClaim := { program := "ytlljmbkfeemgfaagreatdoor", sum := "0d7c6eaccb784562e1ec3c3353387466af0bb9bc0ca29b0aeea620918b9da6b0", func := "escapement/escapementlaw28.MachineAgain", spec := "machineAgain", unfollowed := true, recurses := true, named := ["escapement/isa.rows"], apart := false, laid := [("escapement/isa.rows", laid_escapement_isa_rows)] }
def MachineAgainSaid : Prop := machineAgainRow.holds Tryz.pinned (OpenSpec.ofChange machineAgainSpec)

/-- ITS FALSE NEIGHBOUR: 'it returns false'. Refute it at one input. -/
def machineAgainWrong : ChangeSpec := { name := "machineAgain", fn := fun _ => fun
  | [d1, d2, d3] => { results := [.lit (.bool false)], args := [d1, d2, d3] }
  | _ => none }
def MachineAgainWrongFalsely : Prop := machineAgainRow.holds Tryz.pinned (OpenSpec.ofChange machineAgainWrong)

/-- 'escapementlaw28.MachineStopped': WHATEVER THE INPUT: true; the input reads as it did. -/
def machineStoppedSpec : ChangeSpec := { name := "machineStopped", fn := fun _ => fun
  | [d1, d2, d3] => { results := [.lit (.bool true)], args := [d1, d2, d3] }
  | _ => none }
def machineStoppedRow : OpenClaim := { program := "ytlljmbkfeemgfaagreatdoor", sum := "0d7c6eaccb784562e1ec3c3353387466af0bb9bc0ca29b0aeea620918b9da6b0", func := "escapement/escapementlaw28.MachineStopped", spec := "machineStopped", unfollowed := true, recurses := true, named := ["escapement/isa.rows"], apart := false, laid := [("escapement/isa.rows", laid_escapement_isa_rows)] }
def MachineStoppedSaid : Prop := machineStoppedRow.holds Tryz.pinned (OpenSpec.ofChange machineStoppedSpec)

/-- ITS FALSE NEIGHBOUR: 'it returns false'. Refute it at one input. -/
def machineStoppedWrong : ChangeSpec := { name := "machineStopped", fn := fun _ => fun
  | [d1, d2, d3] => { results := [.lit (.bool false)], args := [d1, d2, d3] }
  | _ => none }
def MachineStoppedWrongFalsely : Prop := machineStoppedRow.holds Tryz.pinned (OpenSpec.ofChange machineStoppedWrong)

/-- 'escapementlaw28.MachinePlaces': WHATEVER THE INPUT: true; the input reads as it did. -/
def machinePlacesSpec : ChangeSpec := { name := "machinePlaces", fn := fun _ => fun
  | [d1, d2, d3] => { results := [.lit (.bool true)], args := [d1, d2, d3] }
  | _ => none }
def machinePlacesRow : OpenClaim := { program := "ytlljmbkfeemgfaagreatdoor", sum := "0d7c6eaccb784562e1ec3c3353387466af0bb9bc0ca29b0aeea620918b9da6b0", func := "escapement/escapementlaw28.MachinePlaces", spec := "machinePlaces", unfollowed := true, recurses := true, named := ["escapement/isa.rows"], apart := false, laid := [("escapement/isa.rows", laid_escapement_isa_rows)] }
def MachinePlacesSaid : Prop := machinePlacesRow.holds Tryz.pinned (OpenSpec.ofChange machinePlacesSpec)

/-- ITS FALSE NEIGHBOUR: 'it returns false'. Refute it at one input. -/
def machinePlacesWrong : ChangeSpec := { name := "machinePlaces", fn := fun _ => fun
  | [d1, d2, d3] => { results := [.lit (.bool false)], args := [d1, d2, d3] }
  | _ => none }
def MachinePlacesWrongFalsely : Prop := machinePlacesRow.holds Tryz.pinned (OpenSpec.ofChange machinePlacesWrong)

/-- 'escapementlaw28.MachineNils': WHATEVER THE INPUT: true; the input reads as it did. -/
def machineNilsSpec : ChangeSpec := { name := "machineNils", fn := fun _ => fun
  | [d] => { results := [.lit (.bool true)], args := [d] }
  | _ => none }
def machineNilsRow : OpenClaim := { program := "ytlljmbkfeemgfaagreatdoor", sum := "0d7c6eaccb784562e1ec3c3353387466af0bb9bc0ca29b0aeea620918b9da6b0", func := "escapement/escapementlaw28.MachineNils", spec := "machineNils", unfollowed := true, recurses := true, named := ["escapement/isa.rows"], apart := false, laid := [("escapement/isa.rows", laid_escapement_isa_rows)] }
def MachineNilsSaid : Prop := machineNilsRow.holds Tryz.pinned (OpenSpec.ofChange machineNilsSpec)

/-- ITS FALSE NEIGHBOUR: 'it returns false'. Refute it at one input. -/
def machineNilsWrong : ChangeSpec := { name := "machineNils", fn := fun _ => fun
  | [d] => { results := [.lit (.bool false)], args := [d] }
  | _ => none }
def MachineNilsWrongFalsely : Prop := machineNilsRow.holds Tryz.pinned (OpenSpec.ofChange machineNilsWrong)

/-- 'escapementlaw41.ShrinkLists': WHATEVER THE INPUT: true; the input reads as it did. -/
def shrinkListsSpec : ChangeSpec := { name := "shrinkLists", fn := fun _ => fun
  | [d1, d2, d3] => { results := [.lit (.bool true)], args := [d1, d2, d3] }
  | _ => none }
def shrinkListsRow : OpenClaim := { program := "ytlljmbkfeemgfaagreatdoor", sum := "0d7c6eaccb784562e1ec3c3353387466af0bb9bc0ca29b0aeea620918b9da6b0", func := "escapement/escapementlaw41.ShrinkLists", spec := "shrinkLists", unfollowed := true, recurses := true, named := ["escapement/isa.rows"], apart := false, laid := [("escapement/isa.rows", laid_escapement_isa_rows)] }
def ShrinkListsSaid : Prop := shrinkListsRow.holds Tryz.pinned (OpenSpec.ofChange shrinkListsSpec)

/-- ITS FALSE NEIGHBOUR: 'it returns false'. Refute it at one input. -/
def shrinkListsWrong : ChangeSpec := { name := "shrinkLists", fn := fun _ => fun
  | [d1, d2, d3] => { results := [.lit (.bool false)], args := [d1, d2, d3] }
  | _ => none }
def ShrinkListsWrongFalsely : Prop := shrinkListsRow.holds Tryz.pinned (OpenSpec.ofChange shrinkListsWrong)

/-- 'escapementlaw41.ShrinkHolds': WHATEVER THE INPUT: true; the input reads as it did. -/
def shrinkHoldsSpec : ChangeSpec := { name := "shrinkHolds", fn := fun _ => fun
  | [d1, d2, d3] => { results := [.lit (.bool true)], args := [d1, d2, d3] }
  | _ => none }
def shrinkHoldsRow : OpenClaim := { program := "ytlljmbkfeemgfaagreatdoor", sum := "0d7c6eaccb784562e1ec3c3353387466af0bb9bc0ca29b0aeea620918b9da6b0", func := "escapement/escapementlaw41.ShrinkHolds", spec := "shrinkHolds", unfollowed := true, recurses := true, named := ["escapement/isa.rows"], apart := false, laid := [("escapement/isa.rows", laid_escapement_isa_rows)] }
def ShrinkHoldsSaid : Prop := shrinkHoldsRow.holds Tryz.pinned (OpenSpec.ofChange shrinkHoldsSpec)

/-- ITS FALSE NEIGHBOUR: 'it returns false'. Refute it at one input. -/
def shrinkHoldsWrong : ChangeSpec := { name := "shrinkHolds", fn := fun _ => fun
  | [d1, d2, d3] => { results := [.lit (.bool false)], args := [d1, d2, d3] }
  | _ => none }
def ShrinkHoldsWrongFalsely : Prop := shrinkHoldsRow.holds Tryz.pinned (OpenSpec.ofChange shrinkHoldsWrong)

/-- 'escapementlaw31.FairLeasts': WHATEVER THE INPUT: true; the input reads as it did. -/
def fairLeastsSpec : ChangeSpec := { name := "fairLeasts", fn := fun _ => fun
  | [d1, d2, d3] => { results := [.lit (.bool true)], args := [d1, d2, d3] }
  | _ => none }
def fairLeastsRow : OpenClaim := { program := "ytlljmbkfeemgfaagreatdoor", sum := "0d7c6eaccb784562e1ec3c3353387466af0bb9bc0ca29b0aeea620918b9da6b0", func := "escapement/escapementlaw31.FairLeasts", spec := "fairLeasts", unfollowed := true, recurses := true, named := ["escapement/isa.rows"], apart := false, laid := [("escapement/isa.rows", laid_escapement_isa_rows)] }
def FairLeastsSaid : Prop := fairLeastsRow.holds Tryz.pinned (OpenSpec.ofChange fairLeastsSpec)

/-- ITS FALSE NEIGHBOUR: 'it returns false'. Refute it at one input. -/
def fairLeastsWrong : ChangeSpec := { name := "fairLeasts", fn := fun _ => fun
  | [d1, d2, d3] => { results := [.lit (.bool false)], args := [d1, d2, d3] }
  | _ => none }
def FairLeastsWrongFalsely : Prop := fairLeastsRow.holds Tryz.pinned (OpenSpec.ofChange fairLeastsWrong)

/-- 'escapementlaw41.ShrinkCuts': WHATEVER THE INPUT: true; the input reads as it did. -/
def shrinkCutsSpec : ChangeSpec := { name := "shrinkCuts", fn := fun _ => fun
  | [d1, d2, d3] => { results := [.lit (.bool true)], args := [d1, d2, d3] }
  | _ => none }
def shrinkCutsRow : OpenClaim := { program := "ytlljmbkfeemgfaagreatdoor", sum := "0d7c6eaccb784562e1ec3c3353387466af0bb9bc0ca29b0aeea620918b9da6b0", func := "escapement/escapementlaw41.ShrinkCuts", spec := "shrinkCuts", unfollowed := true, recurses := true, named := ["escapement/isa.rows"], apart := false, laid := [("escapement/isa.rows", laid_escapement_isa_rows)] }
def ShrinkCutsSaid : Prop := shrinkCutsRow.holds Tryz.pinned (OpenSpec.ofChange shrinkCutsSpec)

/-- ITS FALSE NEIGHBOUR: 'it returns false'. Refute it at one input. -/
def shrinkCutsWrong : ChangeSpec := { name := "shrinkCuts", fn := fun _ => fun
  | [d1, d2, d3] => { results := [.lit (.bool false)], args := [d1, d2, d3] }
  | _ => none }
def ShrinkCutsWrongFalsely : Prop := shrinkCutsRow.holds Tryz.pinned (OpenSpec.ofChange shrinkCutsWrong)

/-- 'escapementlaw41.ShrinkLong': WHATEVER THE INPUT: true; the input reads as it did. -/
def shrinkLongSpec : ChangeSpec := { name := "shrinkLong", fn := fun _ => fun
  | [d] => { results := [.lit (.bool true)], args := [d] }
  | _ => none }
def shrinkLongRow : OpenClaim := { program := "ytlljmbkfeemgfaagreatdoor", sum := "0d7c6eaccb784562e1ec3c3353387466af0bb9bc0ca29b0aeea620918b9da6b0", func := "escapement/escapementlaw41.ShrinkLong", spec := "shrinkLong", unfollowed := true, recurses := true, named := ["escapement/isa.rows"], apart := false, laid := [("escapement/isa.rows", laid_escapement_isa_rows)] }
def ShrinkLongSaid : Prop := shrinkLongRow.holds Tryz.pinned (OpenSpec.ofChange shrinkLongSpec)

/-- ITS FALSE NEIGHBOUR: 'it returns false'. Refute it at one input. -/
def shrinkLongWrong : ChangeSpec := { name := "shrinkLong", fn := fun _ => fun
  | [d] => { results := [.lit (.bool false)], args := [d] }
  | _ => none }
def ShrinkLongWrongFalsely : Prop := shrinkLongRow.holds Tryz.pinned (OpenSpec.ofChange shrinkLongWrong)

/- THE SECOND FORM. 'bulk': how many values and letters a reading holds, each counted each time it is reached (what is shared counts as often as it is met; a slice's spare places count too). A statement '..UptoSaid' is the law's where the arguments, and the package variables that the reading takes, are together of bulk at most 1048576: NARROWER than '..Said'. Prove '..Said' where nothing that the law and all that it calls make is longer than what came in: it says more and counts as full. Else prove '..UptoSaid'. A law counts once. -/
mutual
def uptoBulk {H : Type} : DataW H → Nat
  | .lit (.string bytes) => bytes.length + 1
  | .lit _ => 1
  | .nil => 1
  | .ptr d => uptoBulk d + 1
  | .slice elems spare => uptoBulkAll elems + uptoBulkAll spare + 1
  | .agg parts => uptoBulkAll parts + 1
  | .iface _ d => uptoBulk d + 1
  | .map entries => uptoBulkEntries entries + 1
  | .held _ => 1
def uptoBulkAll {H : Type} : List (DataW H) → Nat
  | [] => 0
  | d :: r => uptoBulk d + uptoBulkAll r
def uptoBulkEntries {H : Type} : List (Lit × DataW H) → Nat
  | [] => 0
  | x :: r => uptoBulkEntry x + uptoBulkEntries r
def uptoBulkEntry {H : Type} : Lit × DataW H → Nat
  | (.string bytes, d) => bytes.length + uptoBulk d + 1
  | (_, d) => uptoBulk d + 1
 end
def uptoSmall : (H : Type) → List (DataW H) → Bool := fun _ ds => decide (uptoBulkAll ds ≤ 1048576)
def OpenSpec.upto (s : _root_.Go.ChangeSpec) : _root_.Go.OpenSpec := { _root_.Go.OpenSpec.ofChange s with cond := some uptoSmall }

/-- 'escapementlaw28.MachineAgain', WHERE WHAT IT READS IS OF BULK AT MOST 1048576: true; the input reads as it did. -/
def machineAgainUptoRow : OpenClaim := { program := "ytlljmbkfeemgfaagreatdoor", sum := "0d7c6eaccb784562e1ec3c3353387466af0bb9bc0ca29b0aeea620918b9da6b0", func := "escapement/escapementlaw28.MachineAgain", spec := "machineAgain", unfollowed := true, recurses := true, named := ["escapement/isa.rows"], apart := false, laid := [("escapement/isa.rows", laid_escapement_isa_rows)], narrowed := true }
def MachineAgainUptoSaid : Prop := machineAgainUptoRow.holds Tryz.pinned (OpenSpec.upto machineAgainSpec)

/-- 'escapementlaw28.MachineStopped', WHERE WHAT IT READS IS OF BULK AT MOST 1048576: true; the input reads as it did. -/
def machineStoppedUptoRow : OpenClaim := { program := "ytlljmbkfeemgfaagreatdoor", sum := "0d7c6eaccb784562e1ec3c3353387466af0bb9bc0ca29b0aeea620918b9da6b0", func := "escapement/escapementlaw28.MachineStopped", spec := "machineStopped", unfollowed := true, recurses := true, named := ["escapement/isa.rows"], apart := false, laid := [("escapement/isa.rows", laid_escapement_isa_rows)], narrowed := true }
def MachineStoppedUptoSaid : Prop := machineStoppedUptoRow.holds Tryz.pinned (OpenSpec.upto machineStoppedSpec)

/-- 'escapementlaw28.MachinePlaces', WHERE WHAT IT READS IS OF BULK AT MOST 1048576: true; the input reads as it did. -/
def machinePlacesUptoRow : OpenClaim := { program := "ytlljmbkfeemgfaagreatdoor", sum := "0d7c6eaccb784562e1ec3c3353387466af0bb9bc0ca29b0aeea620918b9da6b0", func := "escapement/escapementlaw28.MachinePlaces", spec := "machinePlaces", unfollowed := true, recurses := true, named := ["escapement/isa.rows"], apart := false, laid := [("escapement/isa.rows", laid_escapement_isa_rows)], narrowed := true }
def MachinePlacesUptoSaid : Prop := machinePlacesUptoRow.holds Tryz.pinned (OpenSpec.upto machinePlacesSpec)

/-- 'escapementlaw28.MachineNils', WHERE WHAT IT READS IS OF BULK AT MOST 1048576: true; the input reads as it did. -/
def machineNilsUptoRow : OpenClaim := { program := "ytlljmbkfeemgfaagreatdoor", sum := "0d7c6eaccb784562e1ec3c3353387466af0bb9bc0ca29b0aeea620918b9da6b0", func := "escapement/escapementlaw28.MachineNils", spec := "machineNils", unfollowed := true, recurses := true, named := ["escapement/isa.rows"], apart := false, laid := [("escapement/isa.rows", laid_escapement_isa_rows)], narrowed := true }
def MachineNilsUptoSaid : Prop := machineNilsUptoRow.holds Tryz.pinned (OpenSpec.upto machineNilsSpec)

/-- 'escapementlaw41.ShrinkLists', WHERE WHAT IT READS IS OF BULK AT MOST 1048576: true; the input reads as it did. -/
def shrinkListsUptoRow : OpenClaim := { program := "ytlljmbkfeemgfaagreatdoor", sum := "0d7c6eaccb784562e1ec3c3353387466af0bb9bc0ca29b0aeea620918b9da6b0", func := "escapement/escapementlaw41.ShrinkLists", spec := "shrinkLists", unfollowed := true, recurses := true, named := ["escapement/isa.rows"], apart := false, laid := [("escapement/isa.rows", laid_escapement_isa_rows)], narrowed := true }
def ShrinkListsUptoSaid : Prop := shrinkListsUptoRow.holds Tryz.pinned (OpenSpec.upto shrinkListsSpec)

/-- 'escapementlaw41.ShrinkHolds', WHERE WHAT IT READS IS OF BULK AT MOST 1048576: true; the input reads as it did. -/
def shrinkHoldsUptoRow : OpenClaim := { program := "ytlljmbkfeemgfaagreatdoor", sum := "0d7c6eaccb784562e1ec3c3353387466af0bb9bc0ca29b0aeea620918b9da6b0", func := "escapement/escapementlaw41.ShrinkHolds", spec := "shrinkHolds", unfollowed := true, recurses := true, named := ["escapement/isa.rows"], apart := false, laid := [("escapement/isa.rows", laid_escapement_isa_rows)], narrowed := true }
def ShrinkHoldsUptoSaid : Prop := shrinkHoldsUptoRow.holds Tryz.pinned (OpenSpec.upto shrinkHoldsSpec)

/-- 'escapementlaw31.FairLeasts', WHERE WHAT IT READS IS OF BULK AT MOST 1048576: true; the input reads as it did. -/
def fairLeastsUptoRow : OpenClaim := { program := "ytlljmbkfeemgfaagreatdoor", sum := "0d7c6eaccb784562e1ec3c3353387466af0bb9bc0ca29b0aeea620918b9da6b0", func := "escapement/escapementlaw31.FairLeasts", spec := "fairLeasts", unfollowed := true, recurses := true, named := ["escapement/isa.rows"], apart := false, laid := [("escapement/isa.rows", laid_escapement_isa_rows)], narrowed := true }
def FairLeastsUptoSaid : Prop := fairLeastsUptoRow.holds Tryz.pinned (OpenSpec.upto fairLeastsSpec)

/-- 'escapementlaw41.ShrinkCuts', WHERE WHAT IT READS IS OF BULK AT MOST 1048576: true; the input reads as it did. -/
def shrinkCutsUptoRow : OpenClaim := { program := "ytlljmbkfeemgfaagreatdoor", sum := "0d7c6eaccb784562e1ec3c3353387466af0bb9bc0ca29b0aeea620918b9da6b0", func := "escapement/escapementlaw41.ShrinkCuts", spec := "shrinkCuts", unfollowed := true, recurses := true, named := ["escapement/isa.rows"], apart := false, laid := [("escapement/isa.rows", laid_escapement_isa_rows)], narrowed := true }
def ShrinkCutsUptoSaid : Prop := shrinkCutsUptoRow.holds Tryz.pinned (OpenSpec.upto shrinkCutsSpec)

/-- 'escapementlaw41.ShrinkLong', WHERE WHAT IT READS IS OF BULK AT MOST 1048576: true; the input reads as it did. -/
def shrinkLongUptoRow : OpenClaim := { program := "ytlljmbkfeemgfaagreatdoor", sum := "0d7c6eaccb784562e1ec3c3353387466af0bb9bc0ca29b0aeea620918b9da6b0", func := "escapement/escapementlaw41.ShrinkLong", spec := "shrinkLong", unfollowed := true, recurses := true, named := ["escapement/isa.rows"], apart := false, laid := [("escapement/isa.rows", laid_escapement_isa_rows)], narrowed := true }
def ShrinkLongUptoSaid : Prop := shrinkLongUptoRow.holds Tryz.pinned (OpenSpec.upto shrinkLongSpec)

end Rows
end Go.Proofs.YtlljmbkfeemgfaaGreatDoor
