/-
  DERIVED. GIVEN WITH THE SEED: THE CARDS: each row of YtkohadoicebojaaGreatDoorRows.lean that lists a variable, with what it lists TIED to the program's text (the seventh form; the later family's looks); each row that meets fmt, with fmt's text TOLD by the authors' own Lean function (tested against real Go, not proved from fmt's source: count such statements apart). THE CARD IS WHAT COUNTS. Prove the row's statement (the work); the ties are given (YtkohadoicebojaaGreatDoorTie.lean); close each card by the builder's one call (the guide's Derived/Test/ToyasCard.lean, 'card_holds'). Laid BY PROGRAM, IN A SANDBOX (cutbox-door.mjs). By AI agents, Wed Nov 11 2026. No macro, syntax, notation, axiom, sorry.
-/
import Derived.Test.YtkohadoicebojaaGreatDoorRows
import GoSem.ClaimSeven
namespace Go.Proofs.YtkohadoicebojaaGreatDoor
namespace Rows

/-- THE TIED CARD OF 'laws.FnMatrices'. -/
def fnMatricesCard : Claim7 := { stood := { row := fnMatricesRow, standIns := [], harness := (true, "34d3a71a00f95a915741c963cd426620d004358b10d8e994fe78df5d3b04802d"), looks := true }, kinds := [], alts := [], laidByText := true, laidKinds := [.data, .data, .data, .data, .sentinel, .sentinel, .pinned], laidTests := true, laidLooks := .later }
def FnMatricesCardSaid : Prop := Claim7.holds Tryz.pinned (.plain (OpenSpec.ofChange fnMatricesSpec)) fnMatricesCard

/-- THE TIED CARD OF 'laws.FnShifts'. -/
def fnShiftsCard : Claim7 := { stood := { row := fnShiftsRow, standIns := [], harness := (true, "34d3a71a00f95a915741c963cd426620d004358b10d8e994fe78df5d3b04802d"), looks := true }, kinds := [], alts := [], laidByText := true, laidKinds := [.data, .data, .data, .data, .sentinel, .sentinel, .pinned], laidTests := true, laidLooks := .later }
def FnShiftsCardSaid : Prop := Claim7.holds Tryz.pinned (.plain (OpenSpec.ofChange fnShiftsSpec)) fnShiftsCard

/-- THE SECOND FORM's CARD OF 'laws.FnMatrices'. -/
def fnMatricesUptoCard : Claim7 := { stood := { row := fnMatricesUptoRow, standIns := [], harness := (true, "34d3a71a00f95a915741c963cd426620d004358b10d8e994fe78df5d3b04802d"), looks := true }, kinds := [], alts := [], laidByText := true, laidKinds := [.data, .data, .data, .data, .sentinel, .sentinel, .pinned], laidTests := true, laidLooks := .later }
def FnMatricesUptoCardSaid : Prop := Claim7.holds Tryz.pinned (.plain (OpenSpec.upto fnMatricesSpec)) fnMatricesUptoCard

/-- THE SECOND FORM's CARD OF 'laws.FnShifts'. -/
def fnShiftsUptoCard : Claim7 := { stood := { row := fnShiftsUptoRow, standIns := [], harness := (true, "34d3a71a00f95a915741c963cd426620d004358b10d8e994fe78df5d3b04802d"), looks := true }, kinds := [], alts := [], laidByText := true, laidKinds := [.data, .data, .data, .data, .sentinel, .sentinel, .pinned], laidTests := true, laidLooks := .later }
def FnShiftsUptoCardSaid : Prop := Claim7.holds Tryz.pinned (.plain (OpenSpec.upto fnShiftsSpec)) fnShiftsUptoCard
end Rows
end Go.Proofs.YtkohadoicebojaaGreatDoor
