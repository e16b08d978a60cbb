/-
  No cell of these rows narrows 'for every input' (looked for: loops, veiled, ifaces, maps, wideKeys, modest, calm, conditions, laid).
  DERIVED. THE GIVEN ROWS OF THIS SEAT. 9 by the template 'for every input the law returns true; each argument reads behind the call as it read before'; 0 by the template 'total and deterministic' (their statements: YtacgnbbogjdfkaaTotals.lean).
  GIVEN WITH THE SEED: the statements are not yours to turn. If you find one false, say at which input.
  Laid BY PROGRAM, IN A SANDBOX (cutbox-rows.mjs): the forced cells as the released guide's own fill.sh prints them over the translation 8ec16e0ce3e62c07… (all of the seat's roots in one cut). By AI agents, Wed Nov 11 2026. No macro, syntax, notation, axiom, sorry.
-/
import Derived.Test.YtacgnbbogjdfkaaChecked
import GoSem.Claim
import GoSem.ClaimJoined
import GoSem.ClaimMapViews
import Derived.JoinedTies
import Derived.KernelRfl
namespace Go.Proofs.Ytacgnbbogjdfkaa
/- THE CELL 'sum', in the pinned program and in every row, IS THE sha256 OF THE DUMP (.gsa) THAT YtacgnbbogjdfkaaProg.lean LOADS. Nothing in Lean hashes anything: it is a label: what it is worth is what the hold of that sum in a sandbox is worth. -/
noncomputable def Try.pinned : Pinned := { name := "ytacgnbbogjdfkaa", sum := "8ec16e0ce3e62c07b617ec42ca5fae14eb74a274cf60cb6ddbc91275e1ca24de", checked := Try.checked }
namespace Rows
def none {H : Type} : Left H := { results := [], args := [] }

/-- 'laws.FnExactPowerMatrix': WHATEVER THE INPUT: true; the input reads as it did. -/
def fnExactPowerMatrixSpec : ChangeSpec := { name := "fnExactPowerMatrix", fn := fun _ => fun
  | [d1, d2] => { results := [.lit (.bool true)], args := [d1, d2] }
  | _ => none }
def fnExactPowerMatrixRow : OpenClaim := { program := "ytacgnbbogjdfkaa", sum := "8ec16e0ce3e62c07b617ec42ca5fae14eb74a274cf60cb6ddbc91275e1ca24de", func := "loop.example/g03103/laws.FnExactPowerMatrix", spec := "fnExactPowerMatrix", apart := false }
def FnExactPowerMatrixSaid : Prop := fnExactPowerMatrixRow.holds Try.pinned (OpenSpec.ofChange fnExactPowerMatrixSpec)

/-- ITS FALSE NEIGHBOUR: 'it returns false'. Refute it at one input. -/
def fnExactPowerMatrixWrong : ChangeSpec := { name := "fnExactPowerMatrix", fn := fun _ => fun
  | [d1, d2] => { results := [.lit (.bool false)], args := [d1, d2] }
  | _ => none }
def FnExactPowerMatrixWrongFalsely : Prop := fnExactPowerMatrixRow.holds Try.pinned (OpenSpec.ofChange fnExactPowerMatrixWrong)

/-- 'laws.FnExactCountPaths': WHATEVER THE INPUT: true; the input reads as it did. -/
def fnExactCountPathsSpec : ChangeSpec := { name := "fnExactCountPaths", fn := fun _ => fun
  | [d1, d2] => { results := [.lit (.bool true)], args := [d1, d2] }
  | _ => none }
def fnExactCountPathsRow : OpenClaim := { program := "ytacgnbbogjdfkaa", sum := "8ec16e0ce3e62c07b617ec42ca5fae14eb74a274cf60cb6ddbc91275e1ca24de", func := "loop.example/g03103/laws.FnExactCountPaths", spec := "fnExactCountPaths", apart := false }
def FnExactCountPathsSaid : Prop := fnExactCountPathsRow.holds Try.pinned (OpenSpec.ofChange fnExactCountPathsSpec)

/-- ITS FALSE NEIGHBOUR: 'it returns false'. Refute it at one input. -/
def fnExactCountPathsWrong : ChangeSpec := { name := "fnExactCountPaths", fn := fun _ => fun
  | [d1, d2] => { results := [.lit (.bool false)], args := [d1, d2] }
  | _ => none }
def FnExactCountPathsWrongFalsely : Prop := fnExactCountPathsRow.holds Try.pinned (OpenSpec.ofChange fnExactCountPathsWrong)

/-- 'laws.FnExactTrimGraph': WHATEVER THE INPUT: true; the input reads as it did. -/
def fnExactTrimGraphSpec : ChangeSpec := { name := "fnExactTrimGraph", fn := fun _ => fun
  | [d] => { results := [.lit (.bool true)], args := [d] }
  | _ => none }
def fnExactTrimGraphRow : OpenClaim := { program := "ytacgnbbogjdfkaa", sum := "8ec16e0ce3e62c07b617ec42ca5fae14eb74a274cf60cb6ddbc91275e1ca24de", func := "loop.example/g03103/laws.FnExactTrimGraph", spec := "fnExactTrimGraph", apart := false }
def FnExactTrimGraphSaid : Prop := fnExactTrimGraphRow.holds Try.pinned (OpenSpec.ofChange fnExactTrimGraphSpec)

/-- ITS FALSE NEIGHBOUR: 'it returns false'. Refute it at one input. -/
def fnExactTrimGraphWrong : ChangeSpec := { name := "fnExactTrimGraph", fn := fun _ => fun
  | [d] => { results := [.lit (.bool false)], args := [d] }
  | _ => none }
def FnExactTrimGraphWrongFalsely : Prop := fnExactTrimGraphRow.holds Try.pinned (OpenSpec.ofChange fnExactTrimGraphWrong)

/-- 'laws.FnExactIsPrimitive': WHATEVER THE INPUT: true; the input reads as it did. -/
def fnExactIsPrimitiveSpec : ChangeSpec := { name := "fnExactIsPrimitive", fn := fun _ => fun
  | [d] => { results := [.lit (.bool true)], args := [d] }
  | _ => none }
def fnExactIsPrimitiveRow : OpenClaim := { program := "ytacgnbbogjdfkaa", sum := "8ec16e0ce3e62c07b617ec42ca5fae14eb74a274cf60cb6ddbc91275e1ca24de", func := "loop.example/g03103/laws.FnExactIsPrimitive", spec := "fnExactIsPrimitive", apart := false }
def FnExactIsPrimitiveSaid : Prop := fnExactIsPrimitiveRow.holds Try.pinned (OpenSpec.ofChange fnExactIsPrimitiveSpec)

/-- ITS FALSE NEIGHBOUR: 'it returns false'. Refute it at one input. -/
def fnExactIsPrimitiveWrong : ChangeSpec := { name := "fnExactIsPrimitive", fn := fun _ => fun
  | [d] => { results := [.lit (.bool false)], args := [d] }
  | _ => none }
def FnExactIsPrimitiveWrongFalsely : Prop := fnExactIsPrimitiveRow.holds Try.pinned (OpenSpec.ofChange fnExactIsPrimitiveWrong)

/-- 'laws.FnExactPrimitiveStep': WHATEVER THE INPUT: true; the input reads as it did. -/
def fnExactPrimitiveStepSpec : ChangeSpec := { name := "fnExactPrimitiveStep", fn := fun _ => fun
  | [d] => { results := [.lit (.bool true)], args := [d] }
  | _ => none }
def fnExactPrimitiveStepRow : OpenClaim := { program := "ytacgnbbogjdfkaa", sum := "8ec16e0ce3e62c07b617ec42ca5fae14eb74a274cf60cb6ddbc91275e1ca24de", func := "loop.example/g03103/laws.FnExactPrimitiveStep", spec := "fnExactPrimitiveStep", unfollowed := true, recurses := true, apart := false }
def FnExactPrimitiveStepSaid : Prop := fnExactPrimitiveStepRow.holds Try.pinned (OpenSpec.ofChange fnExactPrimitiveStepSpec)

/-- ITS FALSE NEIGHBOUR: 'it returns false'. Refute it at one input. -/
def fnExactPrimitiveStepWrong : ChangeSpec := { name := "fnExactPrimitiveStep", fn := fun _ => fun
  | [d] => { results := [.lit (.bool false)], args := [d] }
  | _ => none }
def FnExactPrimitiveStepWrongFalsely : Prop := fnExactPrimitiveStepRow.holds Try.pinned (OpenSpec.ofChange fnExactPrimitiveStepWrong)

/-- 'laws.FnExactPathsOf': WHATEVER THE INPUT: true; the input reads as it did. -/
def fnExactPathsOfSpec : ChangeSpec := { name := "fnExactPathsOf", fn := fun _ => fun
  | [d1, d2] => { results := [.lit (.bool true)], args := [d1, d2] }
  | _ => none }
def fnExactPathsOfRow : OpenClaim := { program := "ytacgnbbogjdfkaa", sum := "8ec16e0ce3e62c07b617ec42ca5fae14eb74a274cf60cb6ddbc91275e1ca24de", func := "loop.example/g03103/laws.FnExactPathsOf", spec := "fnExactPathsOf", recurses := true, apart := false }
def FnExactPathsOfSaid : Prop := fnExactPathsOfRow.holds Try.pinned (OpenSpec.ofChange fnExactPathsOfSpec)

/-- ITS FALSE NEIGHBOUR: 'it returns false'. Refute it at one input. -/
def fnExactPathsOfWrong : ChangeSpec := { name := "fnExactPathsOf", fn := fun _ => fun
  | [d1, d2] => { results := [.lit (.bool false)], args := [d1, d2] }
  | _ => none }
def FnExactPathsOfWrongFalsely : Prop := fnExactPathsOfRow.holds Try.pinned (OpenSpec.ofChange fnExactPathsOfWrong)

/-- 'laws.FnExactTurnsOf': WHATEVER THE INPUT: true; the input reads as it did. -/
def fnExactTurnsOfSpec : ChangeSpec := { name := "fnExactTurnsOf", fn := fun _ => fun
  | [d] => { results := [.lit (.bool true)], args := [d] }
  | _ => none }
def fnExactTurnsOfRow : OpenClaim := { program := "ytacgnbbogjdfkaa", sum := "8ec16e0ce3e62c07b617ec42ca5fae14eb74a274cf60cb6ddbc91275e1ca24de", func := "loop.example/g03103/laws.FnExactTurnsOf", spec := "fnExactTurnsOf", apart := false }
def FnExactTurnsOfSaid : Prop := fnExactTurnsOfRow.holds Try.pinned (OpenSpec.ofChange fnExactTurnsOfSpec)

/-- ITS FALSE NEIGHBOUR: 'it returns false'. Refute it at one input. -/
def fnExactTurnsOfWrong : ChangeSpec := { name := "fnExactTurnsOf", fn := fun _ => fun
  | [d] => { results := [.lit (.bool false)], args := [d] }
  | _ => none }
def FnExactTurnsOfWrongFalsely : Prop := fnExactTurnsOfRow.holds Try.pinned (OpenSpec.ofChange fnExactTurnsOfWrong)

/-- 'laws.FnGraphs': WHATEVER THE INPUT: true; the input reads as it did. -/
def fnGraphsSpec : ChangeSpec := { name := "fnGraphs", fn := fun _ => fun
  | [d] => { results := [.lit (.bool true)], args := [d] }
  | _ => none }
def fnGraphsRow : OpenClaim := { program := "ytacgnbbogjdfkaa", sum := "8ec16e0ce3e62c07b617ec42ca5fae14eb74a274cf60cb6ddbc91275e1ca24de", func := "loop.example/g03103/laws.FnGraphs", spec := "fnGraphs", recurses := true, apart := false }
def FnGraphsSaid : Prop := fnGraphsRow.holds Try.pinned (OpenSpec.ofChange fnGraphsSpec)

/-- ITS FALSE NEIGHBOUR: 'it returns false'. Refute it at one input. -/
def fnGraphsWrong : ChangeSpec := { name := "fnGraphs", fn := fun _ => fun
  | [d] => { results := [.lit (.bool false)], args := [d] }
  | _ => none }
def FnGraphsWrongFalsely : Prop := fnGraphsRow.holds Try.pinned (OpenSpec.ofChange fnGraphsWrong)

/-- 'laws.FnComponents': WHATEVER THE INPUT: true; the input reads as it did. -/
def fnComponentsSpec : ChangeSpec := { name := "fnComponents", fn := fun _ => fun
  | [d] => { results := [.lit (.bool true)], args := [d] }
  | _ => none }
def fnComponentsRow : OpenClaim := { program := "ytacgnbbogjdfkaa", sum := "8ec16e0ce3e62c07b617ec42ca5fae14eb74a274cf60cb6ddbc91275e1ca24de", func := "loop.example/g03103/laws.FnComponents", spec := "fnComponents", unfollowed := true, recurses := true, apart := false }
def FnComponentsSaid : Prop := fnComponentsRow.holds Try.pinned (OpenSpec.ofChange fnComponentsSpec)

/-- ITS FALSE NEIGHBOUR: 'it returns false'. Refute it at one input. -/
def fnComponentsWrong : ChangeSpec := { name := "fnComponents", fn := fun _ => fun
  | [d] => { results := [.lit (.bool false)], args := [d] }
  | _ => none }
def FnComponentsWrongFalsely : Prop := fnComponentsRow.holds Try.pinned (OpenSpec.ofChange fnComponentsWrong)

/- THE SECOND FORM. 'bulk': how many values and letters a reading holds, each counted each time it is reached (what is shared counts as often as it is met; a slice's spare places count too). A statement '..UptoSaid' is the law's where the arguments, and the package variables that the reading takes, are together of bulk at most 1048576: NARROWER than '..Said'. Prove '..Said' where nothing that the law and all that it calls make is longer than what came in: it says more and counts as full. Else prove '..UptoSaid'. A law counts once. -/
mutual
def uptoBulk {H : Type} : DataW H → Nat
  | .lit (.string bytes) => bytes.length + 1
  | .lit _ => 1
  | .nil => 1
  | .ptr d => uptoBulk d + 1
  | .slice elems spare => uptoBulkAll elems + uptoBulkAll spare + 1
  | .agg parts => uptoBulkAll parts + 1
  | .iface _ d => uptoBulk d + 1
  | .map entries => uptoBulkEntries entries + 1
  | .held _ => 1
def uptoBulkAll {H : Type} : List (DataW H) → Nat
  | [] => 0
  | d :: r => uptoBulk d + uptoBulkAll r
def uptoBulkEntries {H : Type} : List (Lit × DataW H) → Nat
  | [] => 0
  | x :: r => uptoBulkEntry x + uptoBulkEntries r
def uptoBulkEntry {H : Type} : Lit × DataW H → Nat
  | (.string bytes, d) => bytes.length + uptoBulk d + 1
  | (_, d) => uptoBulk d + 1
 end
def uptoSmall : (H : Type) → List (DataW H) → Bool := fun _ ds => decide (uptoBulkAll ds ≤ 1048576)
def OpenSpec.upto (s : _root_.Go.ChangeSpec) : _root_.Go.OpenSpec := { _root_.Go.OpenSpec.ofChange s with cond := some uptoSmall }

/-- 'laws.FnExactPowerMatrix', WHERE WHAT IT READS IS OF BULK AT MOST 1048576: true; the input reads as it did. -/
def fnExactPowerMatrixUptoRow : OpenClaim := { program := "ytacgnbbogjdfkaa", sum := "8ec16e0ce3e62c07b617ec42ca5fae14eb74a274cf60cb6ddbc91275e1ca24de", func := "loop.example/g03103/laws.FnExactPowerMatrix", spec := "fnExactPowerMatrix", apart := false, narrowed := true }
def FnExactPowerMatrixUptoSaid : Prop := fnExactPowerMatrixUptoRow.holds Try.pinned (OpenSpec.upto fnExactPowerMatrixSpec)

/-- 'laws.FnExactCountPaths', WHERE WHAT IT READS IS OF BULK AT MOST 1048576: true; the input reads as it did. -/
def fnExactCountPathsUptoRow : OpenClaim := { program := "ytacgnbbogjdfkaa", sum := "8ec16e0ce3e62c07b617ec42ca5fae14eb74a274cf60cb6ddbc91275e1ca24de", func := "loop.example/g03103/laws.FnExactCountPaths", spec := "fnExactCountPaths", apart := false, narrowed := true }
def FnExactCountPathsUptoSaid : Prop := fnExactCountPathsUptoRow.holds Try.pinned (OpenSpec.upto fnExactCountPathsSpec)

/-- 'laws.FnExactTrimGraph', WHERE WHAT IT READS IS OF BULK AT MOST 1048576: true; the input reads as it did. -/
def fnExactTrimGraphUptoRow : OpenClaim := { program := "ytacgnbbogjdfkaa", sum := "8ec16e0ce3e62c07b617ec42ca5fae14eb74a274cf60cb6ddbc91275e1ca24de", func := "loop.example/g03103/laws.FnExactTrimGraph", spec := "fnExactTrimGraph", apart := false, narrowed := true }
def FnExactTrimGraphUptoSaid : Prop := fnExactTrimGraphUptoRow.holds Try.pinned (OpenSpec.upto fnExactTrimGraphSpec)

/-- 'laws.FnExactIsPrimitive', WHERE WHAT IT READS IS OF BULK AT MOST 1048576: true; the input reads as it did. -/
def fnExactIsPrimitiveUptoRow : OpenClaim := { program := "ytacgnbbogjdfkaa", sum := "8ec16e0ce3e62c07b617ec42ca5fae14eb74a274cf60cb6ddbc91275e1ca24de", func := "loop.example/g03103/laws.FnExactIsPrimitive", spec := "fnExactIsPrimitive", apart := false, narrowed := true }
def FnExactIsPrimitiveUptoSaid : Prop := fnExactIsPrimitiveUptoRow.holds Try.pinned (OpenSpec.upto fnExactIsPrimitiveSpec)

/-- 'laws.FnExactPrimitiveStep', WHERE WHAT IT READS IS OF BULK AT MOST 1048576: true; the input reads as it did. -/
def fnExactPrimitiveStepUptoRow : OpenClaim := { program := "ytacgnbbogjdfkaa", sum := "8ec16e0ce3e62c07b617ec42ca5fae14eb74a274cf60cb6ddbc91275e1ca24de", func := "loop.example/g03103/laws.FnExactPrimitiveStep", spec := "fnExactPrimitiveStep", unfollowed := true, recurses := true, apart := false, narrowed := true }
def FnExactPrimitiveStepUptoSaid : Prop := fnExactPrimitiveStepUptoRow.holds Try.pinned (OpenSpec.upto fnExactPrimitiveStepSpec)

/-- 'laws.FnExactPathsOf', WHERE WHAT IT READS IS OF BULK AT MOST 1048576: true; the input reads as it did. -/
def fnExactPathsOfUptoRow : OpenClaim := { program := "ytacgnbbogjdfkaa", sum := "8ec16e0ce3e62c07b617ec42ca5fae14eb74a274cf60cb6ddbc91275e1ca24de", func := "loop.example/g03103/laws.FnExactPathsOf", spec := "fnExactPathsOf", recurses := true, apart := false, narrowed := true }
def FnExactPathsOfUptoSaid : Prop := fnExactPathsOfUptoRow.holds Try.pinned (OpenSpec.upto fnExactPathsOfSpec)

/-- 'laws.FnExactTurnsOf', WHERE WHAT IT READS IS OF BULK AT MOST 1048576: true; the input reads as it did. -/
def fnExactTurnsOfUptoRow : OpenClaim := { program := "ytacgnbbogjdfkaa", sum := "8ec16e0ce3e62c07b617ec42ca5fae14eb74a274cf60cb6ddbc91275e1ca24de", func := "loop.example/g03103/laws.FnExactTurnsOf", spec := "fnExactTurnsOf", apart := false, narrowed := true }
def FnExactTurnsOfUptoSaid : Prop := fnExactTurnsOfUptoRow.holds Try.pinned (OpenSpec.upto fnExactTurnsOfSpec)

/-- 'laws.FnGraphs', WHERE WHAT IT READS IS OF BULK AT MOST 1048576: true; the input reads as it did. -/
def fnGraphsUptoRow : OpenClaim := { program := "ytacgnbbogjdfkaa", sum := "8ec16e0ce3e62c07b617ec42ca5fae14eb74a274cf60cb6ddbc91275e1ca24de", func := "loop.example/g03103/laws.FnGraphs", spec := "fnGraphs", recurses := true, apart := false, narrowed := true }
def FnGraphsUptoSaid : Prop := fnGraphsUptoRow.holds Try.pinned (OpenSpec.upto fnGraphsSpec)

/-- 'laws.FnComponents', WHERE WHAT IT READS IS OF BULK AT MOST 1048576: true; the input reads as it did. -/
def fnComponentsUptoRow : OpenClaim := { program := "ytacgnbbogjdfkaa", sum := "8ec16e0ce3e62c07b617ec42ca5fae14eb74a274cf60cb6ddbc91275e1ca24de", func := "loop.example/g03103/laws.FnComponents", spec := "fnComponents", unfollowed := true, recurses := true, apart := false, narrowed := true }
def FnComponentsUptoSaid : Prop := fnComponentsUptoRow.holds Try.pinned (OpenSpec.upto fnComponentsSpec)

end Rows
end Go.Proofs.Ytacgnbbogjdfkaa
