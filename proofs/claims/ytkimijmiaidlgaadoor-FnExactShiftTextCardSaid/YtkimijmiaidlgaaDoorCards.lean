/-
  DERIVED. GIVEN WITH THE SEED: THE CARDS: each row of YtkimijmiaidlgaaDoorRows.lean that lists a variable, with what it lists TIED to the program's text (the seventh form; the later family's looks); each row that meets fmt, with fmt's text TOLD by the authors' own Lean function (tested against real Go, not proved from fmt's source: count such statements apart). THE CARD IS WHAT COUNTS. Prove the row's statement (the work); the ties are given (YtkimijmiaidlgaaDoorTie.lean); close each card by the builder's one call (the guide's Derived/Test/ToyasCard.lean, 'card_holds'). Laid BY PROGRAM, IN A SANDBOX (cutbox-door.mjs). By AI agents, Wed Nov 11 2026. No macro, syntax, notation, axiom, sorry.
-/
import Derived.Test.YtkimijmiaidlgaaDoorRows
import GoSem.ClaimSeven
namespace Go.Proofs.YtkimijmiaidlgaaDoor
namespace Rows

/-- THE TIED CARD OF 'laws.FnExactShiftText'. -/
def fnExactShiftTextCard : Claim7 := { stood := { row := fnExactShiftTextRow, standIns := [], harness := (true, "bbdeb9126d353df892bb0c1acc94f9857e535e63f4979c7d66ffabc119b33d30"), looks := false }, kinds := [], alts := [], laidByText := true, laidKinds := [.data, .data, .data], laidTests := true, laidLooks := .later }
def FnExactShiftTextCardSaid : Prop := Claim7.holds Tryd.pinned (.plain (OpenSpec.ofChange fnExactShiftTextSpec)) fnExactShiftTextCard

/-- THE TIED CARD OF 'laws.FnExactMatrixText'. -/
def fnExactMatrixTextCard : Claim7 := { stood := { row := fnExactMatrixTextRow, standIns := [], harness := (true, "bbdeb9126d353df892bb0c1acc94f9857e535e63f4979c7d66ffabc119b33d30"), looks := false }, kinds := [], alts := [], laidByText := true, laidKinds := [.data, .data, .data], laidTests := true, laidLooks := .later }
def FnExactMatrixTextCardSaid : Prop := Claim7.holds Tryd.pinned (.plain (OpenSpec.ofChange fnExactMatrixTextSpec)) fnExactMatrixTextCard

/-- THE SECOND FORM's CARD OF 'laws.FnExactShiftText'. -/
def fnExactShiftTextUptoCard : Claim7 := { stood := { row := fnExactShiftTextUptoRow, standIns := [], harness := (true, "bbdeb9126d353df892bb0c1acc94f9857e535e63f4979c7d66ffabc119b33d30"), looks := false }, kinds := [], alts := [], laidByText := true, laidKinds := [.data, .data, .data], laidTests := true, laidLooks := .later }
def FnExactShiftTextUptoCardSaid : Prop := Claim7.holds Tryd.pinned (.plain (OpenSpec.upto fnExactShiftTextSpec)) fnExactShiftTextUptoCard

/-- THE SECOND FORM's CARD OF 'laws.FnExactMatrixText'. -/
def fnExactMatrixTextUptoCard : Claim7 := { stood := { row := fnExactMatrixTextUptoRow, standIns := [], harness := (true, "bbdeb9126d353df892bb0c1acc94f9857e535e63f4979c7d66ffabc119b33d30"), looks := false }, kinds := [], alts := [], laidByText := true, laidKinds := [.data, .data, .data], laidTests := true, laidLooks := .later }
def FnExactMatrixTextUptoCardSaid : Prop := Claim7.holds Tryd.pinned (.plain (OpenSpec.upto fnExactMatrixTextSpec)) fnExactMatrixTextUptoCard
end Rows
end Go.Proofs.YtkimijmiaidlgaaDoor
