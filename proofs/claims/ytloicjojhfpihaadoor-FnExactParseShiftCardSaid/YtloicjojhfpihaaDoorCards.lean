/-
  DERIVED. GIVEN WITH THE SEED: THE CARDS: each row of YtloicjojhfpihaaDoorRows.lean that lists a variable, with what it lists TIED to the program's text (the seventh form; the later family's looks); each row that meets fmt, with fmt's text TOLD by the authors' own Lean function (tested against real Go, not proved from fmt's source: count such statements apart). THE CARD IS WHAT COUNTS. Prove the row's statement (the work); the ties are given (YtloicjojhfpihaaDoorTie.lean); close each card by the builder's one call (the guide's Derived/Test/ToyasCard.lean, 'card_holds'). Laid BY PROGRAM, IN A SANDBOX (cutbox-door.mjs). By AI agents, Wed Nov 11 2026. No macro, syntax, notation, axiom, sorry.
-/
import Derived.Test.YtloicjojhfpihaaDoorRows
import GoSem.ClaimSeven
namespace Go.Proofs.YtloicjojhfpihaaDoor
namespace Rows

/-- THE TIED CARD OF 'laws.FnExactParseShift'. -/
def fnExactParseShiftCard : Claim7 := { stood := { row := fnExactParseShiftRow, standIns := [], harness := (true, "e7b61529d3f8533211bc118549634c46ced31f777ae8a42d376890d243e7364b"), looks := true }, kinds := [], alts := [], laidByText := true, laidKinds := [.data, .data, .data, .data, .sentinel, .sentinel, .pinned], laidTests := true, laidLooks := .later }
def FnExactParseShiftCardSaid : Prop := Claim7.holds Tryd.pinned (.plain (OpenSpec.ofChange fnExactParseShiftSpec)) fnExactParseShiftCard

/-- THE TIED CARD OF 'laws.FnExactParseMatrix'. -/
def fnExactParseMatrixCard : Claim7 := { stood := { row := fnExactParseMatrixRow, standIns := [], harness := (true, "e7b61529d3f8533211bc118549634c46ced31f777ae8a42d376890d243e7364b"), looks := true }, kinds := [], alts := [], laidByText := true, laidKinds := [.data, .data, .data, .data, .sentinel, .sentinel, .pinned], laidTests := true, laidLooks := .later }
def FnExactParseMatrixCardSaid : Prop := Claim7.holds Tryd.pinned (.plain (OpenSpec.ofChange fnExactParseMatrixSpec)) fnExactParseMatrixCard

/-- THE SECOND FORM's CARD OF 'laws.FnExactParseShift'. -/
def fnExactParseShiftUptoCard : Claim7 := { stood := { row := fnExactParseShiftUptoRow, standIns := [], harness := (true, "e7b61529d3f8533211bc118549634c46ced31f777ae8a42d376890d243e7364b"), looks := true }, kinds := [], alts := [], laidByText := true, laidKinds := [.data, .data, .data, .data, .sentinel, .sentinel, .pinned], laidTests := true, laidLooks := .later }
def FnExactParseShiftUptoCardSaid : Prop := Claim7.holds Tryd.pinned (.plain (OpenSpec.upto fnExactParseShiftSpec)) fnExactParseShiftUptoCard

/-- THE SECOND FORM's CARD OF 'laws.FnExactParseMatrix'. -/
def fnExactParseMatrixUptoCard : Claim7 := { stood := { row := fnExactParseMatrixUptoRow, standIns := [], harness := (true, "e7b61529d3f8533211bc118549634c46ced31f777ae8a42d376890d243e7364b"), looks := true }, kinds := [], alts := [], laidByText := true, laidKinds := [.data, .data, .data, .data, .sentinel, .sentinel, .pinned], laidTests := true, laidLooks := .later }
def FnExactParseMatrixUptoCardSaid : Prop := Claim7.holds Tryd.pinned (.plain (OpenSpec.upto fnExactParseMatrixSpec)) fnExactParseMatrixUptoCard
end Rows
end Go.Proofs.YtloicjojhfpihaaDoor
