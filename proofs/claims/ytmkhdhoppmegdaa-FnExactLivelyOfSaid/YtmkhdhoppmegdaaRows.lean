/-
  No cell of these rows narrows 'for every input' (looked for: loops, veiled, ifaces, maps, wideKeys, modest, calm, conditions, laid).
  DERIVED. THE GIVEN ROWS OF THIS SEAT. 12 by the template 'for every input the law returns true; each argument reads behind the call as it read before'; 0 by the template 'total and deterministic' (their statements: YtmkhdhoppmegdaaTotals.lean).
  GIVEN WITH THE SEED: the statements are not yours to turn. If you find one false, say at which input.
  Laid BY PROGRAM, IN A SANDBOX (cutbox-rows.mjs): the forced cells as the released guide's own fill.sh prints them over the translation 482b08b6571fe4d9… (all of the seat's roots in one cut). By AI agents, Wed Nov 11 2026. No macro, syntax, notation, axiom, sorry.
-/
import Derived.Test.YtmkhdhoppmegdaaChecked
import GoSem.Claim
import GoSem.ClaimJoined
import GoSem.ClaimMapViews
import Derived.JoinedTies
import Derived.KernelRfl
namespace Go.Proofs.Ytmkhdhoppmegdaa
/- THE CELL 'sum', in the pinned program and in every row, IS THE sha256 OF THE DUMP (.gsa) THAT YtmkhdhoppmegdaaProg.lean LOADS. Nothing in Lean hashes anything: it is a label: what it is worth is what the hold of that sum in a sandbox is worth. -/
noncomputable def Try.pinned : Pinned := { name := "ytmkhdhoppmegdaa", sum := "482b08b6571fe4d9d57fb8e3c74516e8dd074e1c7654bdc2fc92539b3eda7e47", checked := Try.checked }
namespace Rows
def none {H : Type} : Left H := { results := [], args := [] }

/-- 'laws.FnExactSumOf': WHATEVER THE INPUT: true; the input reads as it did. -/
def fnExactSumOfSpec : ChangeSpec := { name := "fnExactSumOf", fn := fun _ => fun
  | [d] => { results := [.lit (.bool true)], args := [d] }
  | _ => none }
def fnExactSumOfRow : OpenClaim := { program := "ytmkhdhoppmegdaa", sum := "482b08b6571fe4d9d57fb8e3c74516e8dd074e1c7654bdc2fc92539b3eda7e47", func := "loop.example/g03103/laws.FnExactSumOf", spec := "fnExactSumOf", apart := false }
def FnExactSumOfSaid : Prop := fnExactSumOfRow.holds Try.pinned (OpenSpec.ofChange fnExactSumOfSpec)

/-- ITS FALSE NEIGHBOUR: 'it returns false'. Refute it at one input. -/
def fnExactSumOfWrong : ChangeSpec := { name := "fnExactSumOf", fn := fun _ => fun
  | [d] => { results := [.lit (.bool false)], args := [d] }
  | _ => none }
def FnExactSumOfWrongFalsely : Prop := fnExactSumOfRow.holds Try.pinned (OpenSpec.ofChange fnExactSumOfWrong)

/-- 'laws.FnExactIsGraph': WHATEVER THE INPUT: true; the input reads as it did. -/
def fnExactIsGraphSpec : ChangeSpec := { name := "fnExactIsGraph", fn := fun _ => fun
  | [d] => { results := [.lit (.bool true)], args := [d] }
  | _ => none }
def fnExactIsGraphRow : OpenClaim := { program := "ytmkhdhoppmegdaa", sum := "482b08b6571fe4d9d57fb8e3c74516e8dd074e1c7654bdc2fc92539b3eda7e47", func := "loop.example/g03103/laws.FnExactIsGraph", spec := "fnExactIsGraph", apart := false }
def FnExactIsGraphSaid : Prop := fnExactIsGraphRow.holds Try.pinned (OpenSpec.ofChange fnExactIsGraphSpec)

/-- ITS FALSE NEIGHBOUR: 'it returns false'. Refute it at one input. -/
def fnExactIsGraphWrong : ChangeSpec := { name := "fnExactIsGraph", fn := fun _ => fun
  | [d] => { results := [.lit (.bool false)], args := [d] }
  | _ => none }
def FnExactIsGraphWrongFalsely : Prop := fnExactIsGraphRow.holds Try.pinned (OpenSpec.ofChange fnExactIsGraphWrong)

/-- 'laws.FnExactTurnMatrix': WHATEVER THE INPUT: true; the input reads as it did. -/
def fnExactTurnMatrixSpec : ChangeSpec := { name := "fnExactTurnMatrix", fn := fun _ => fun
  | [d] => { results := [.lit (.bool true)], args := [d] }
  | _ => none }
def fnExactTurnMatrixRow : OpenClaim := { program := "ytmkhdhoppmegdaa", sum := "482b08b6571fe4d9d57fb8e3c74516e8dd074e1c7654bdc2fc92539b3eda7e47", func := "loop.example/g03103/laws.FnExactTurnMatrix", spec := "fnExactTurnMatrix", apart := false }
def FnExactTurnMatrixSaid : Prop := fnExactTurnMatrixRow.holds Try.pinned (OpenSpec.ofChange fnExactTurnMatrixSpec)

/-- ITS FALSE NEIGHBOUR: 'it returns false'. Refute it at one input. -/
def fnExactTurnMatrixWrong : ChangeSpec := { name := "fnExactTurnMatrix", fn := fun _ => fun
  | [d] => { results := [.lit (.bool false)], args := [d] }
  | _ => none }
def FnExactTurnMatrixWrongFalsely : Prop := fnExactTurnMatrixRow.holds Try.pinned (OpenSpec.ofChange fnExactTurnMatrixWrong)

/-- 'laws.FnExactIsPath': WHATEVER THE INPUT: true; the input reads as it did. -/
def fnExactIsPathSpec : ChangeSpec := { name := "fnExactIsPath", fn := fun _ => fun
  | [d1, d2] => { results := [.lit (.bool true)], args := [d1, d2] }
  | _ => none }
def fnExactIsPathRow : OpenClaim := { program := "ytmkhdhoppmegdaa", sum := "482b08b6571fe4d9d57fb8e3c74516e8dd074e1c7654bdc2fc92539b3eda7e47", func := "loop.example/g03103/laws.FnExactIsPath", spec := "fnExactIsPath", apart := false }
def FnExactIsPathSaid : Prop := fnExactIsPathRow.holds Try.pinned (OpenSpec.ofChange fnExactIsPathSpec)

/-- ITS FALSE NEIGHBOUR: 'it returns false'. Refute it at one input. -/
def fnExactIsPathWrong : ChangeSpec := { name := "fnExactIsPath", fn := fun _ => fun
  | [d1, d2] => { results := [.lit (.bool false)], args := [d1, d2] }
  | _ => none }
def FnExactIsPathWrongFalsely : Prop := fnExactIsPathRow.holds Try.pinned (OpenSpec.ofChange fnExactIsPathWrong)

/-- 'laws.FnExactIsLively': WHATEVER THE INPUT: true; the input reads as it did. -/
def fnExactIsLivelySpec : ChangeSpec := { name := "fnExactIsLively", fn := fun _ => fun
  | [d] => { results := [.lit (.bool true)], args := [d] }
  | _ => none }
def fnExactIsLivelyRow : OpenClaim := { program := "ytmkhdhoppmegdaa", sum := "482b08b6571fe4d9d57fb8e3c74516e8dd074e1c7654bdc2fc92539b3eda7e47", func := "loop.example/g03103/laws.FnExactIsLively", spec := "fnExactIsLively", apart := false }
def FnExactIsLivelySaid : Prop := fnExactIsLivelyRow.holds Try.pinned (OpenSpec.ofChange fnExactIsLivelySpec)

/-- ITS FALSE NEIGHBOUR: 'it returns false'. Refute it at one input. -/
def fnExactIsLivelyWrong : ChangeSpec := { name := "fnExactIsLively", fn := fun _ => fun
  | [d] => { results := [.lit (.bool false)], args := [d] }
  | _ => none }
def FnExactIsLivelyWrongFalsely : Prop := fnExactIsLivelyRow.holds Try.pinned (OpenSpec.ofChange fnExactIsLivelyWrong)

/-- 'laws.FnExactMultiplyMatrices': WHATEVER THE INPUT: true; the input reads as it did. -/
def fnExactMultiplyMatricesSpec : ChangeSpec := { name := "fnExactMultiplyMatrices", fn := fun _ => fun
  | [d1, d2] => { results := [.lit (.bool true)], args := [d1, d2] }
  | _ => none }
def fnExactMultiplyMatricesRow : OpenClaim := { program := "ytmkhdhoppmegdaa", sum := "482b08b6571fe4d9d57fb8e3c74516e8dd074e1c7654bdc2fc92539b3eda7e47", func := "loop.example/g03103/laws.FnExactMultiplyMatrices", spec := "fnExactMultiplyMatrices", apart := false }
def FnExactMultiplyMatricesSaid : Prop := fnExactMultiplyMatricesRow.holds Try.pinned (OpenSpec.ofChange fnExactMultiplyMatricesSpec)

/-- ITS FALSE NEIGHBOUR: 'it returns false'. Refute it at one input. -/
def fnExactMultiplyMatricesWrong : ChangeSpec := { name := "fnExactMultiplyMatrices", fn := fun _ => fun
  | [d1, d2] => { results := [.lit (.bool false)], args := [d1, d2] }
  | _ => none }
def FnExactMultiplyMatricesWrongFalsely : Prop := fnExactMultiplyMatricesRow.holds Try.pinned (OpenSpec.ofChange fnExactMultiplyMatricesWrong)

/-- 'laws.FnExactIsIrreducible': WHATEVER THE INPUT: true; the input reads as it did. -/
def fnExactIsIrreducibleSpec : ChangeSpec := { name := "fnExactIsIrreducible", fn := fun _ => fun
  | [d] => { results := [.lit (.bool true)], args := [d] }
  | _ => none }
def fnExactIsIrreducibleRow : OpenClaim := { program := "ytmkhdhoppmegdaa", sum := "482b08b6571fe4d9d57fb8e3c74516e8dd074e1c7654bdc2fc92539b3eda7e47", func := "loop.example/g03103/laws.FnExactIsIrreducible", spec := "fnExactIsIrreducible", apart := false }
def FnExactIsIrreducibleSaid : Prop := fnExactIsIrreducibleRow.holds Try.pinned (OpenSpec.ofChange fnExactIsIrreducibleSpec)

/-- ITS FALSE NEIGHBOUR: 'it returns false'. Refute it at one input. -/
def fnExactIsIrreducibleWrong : ChangeSpec := { name := "fnExactIsIrreducible", fn := fun _ => fun
  | [d] => { results := [.lit (.bool false)], args := [d] }
  | _ => none }
def FnExactIsIrreducibleWrongFalsely : Prop := fnExactIsIrreducibleRow.holds Try.pinned (OpenSpec.ofChange fnExactIsIrreducibleWrong)

/-- 'laws.FnExactReachOf': WHATEVER THE INPUT: true; the input reads as it did. -/
def fnExactReachOfSpec : ChangeSpec := { name := "fnExactReachOf", fn := fun _ => fun
  | [d] => { results := [.lit (.bool true)], args := [d] }
  | _ => none }
def fnExactReachOfRow : OpenClaim := { program := "ytmkhdhoppmegdaa", sum := "482b08b6571fe4d9d57fb8e3c74516e8dd074e1c7654bdc2fc92539b3eda7e47", func := "loop.example/g03103/laws.FnExactReachOf", spec := "fnExactReachOf", apart := false }
def FnExactReachOfSaid : Prop := fnExactReachOfRow.holds Try.pinned (OpenSpec.ofChange fnExactReachOfSpec)

/-- ITS FALSE NEIGHBOUR: 'it returns false'. Refute it at one input. -/
def fnExactReachOfWrong : ChangeSpec := { name := "fnExactReachOf", fn := fun _ => fun
  | [d] => { results := [.lit (.bool false)], args := [d] }
  | _ => none }
def FnExactReachOfWrongFalsely : Prop := fnExactReachOfRow.holds Try.pinned (OpenSpec.ofChange fnExactReachOfWrong)

/-- 'laws.FnExactArcsOf': WHATEVER THE INPUT: true; the input reads as it did. -/
def fnExactArcsOfSpec : ChangeSpec := { name := "fnExactArcsOf", fn := fun _ => fun
  | [d] => { results := [.lit (.bool true)], args := [d] }
  | _ => none }
def fnExactArcsOfRow : OpenClaim := { program := "ytmkhdhoppmegdaa", sum := "482b08b6571fe4d9d57fb8e3c74516e8dd074e1c7654bdc2fc92539b3eda7e47", func := "loop.example/g03103/laws.FnExactArcsOf", spec := "fnExactArcsOf", apart := false }
def FnExactArcsOfSaid : Prop := fnExactArcsOfRow.holds Try.pinned (OpenSpec.ofChange fnExactArcsOfSpec)

/-- ITS FALSE NEIGHBOUR: 'it returns false'. Refute it at one input. -/
def fnExactArcsOfWrong : ChangeSpec := { name := "fnExactArcsOf", fn := fun _ => fun
  | [d] => { results := [.lit (.bool false)], args := [d] }
  | _ => none }
def FnExactArcsOfWrongFalsely : Prop := fnExactArcsOfRow.holds Try.pinned (OpenSpec.ofChange fnExactArcsOfWrong)

/-- 'laws.FnExactLivelyOf': WHATEVER THE INPUT: true; the input reads as it did. -/
def fnExactLivelyOfSpec : ChangeSpec := { name := "fnExactLivelyOf", fn := fun _ => fun
  | [d] => { results := [.lit (.bool true)], args := [d] }
  | _ => none }
def fnExactLivelyOfRow : OpenClaim := { program := "ytmkhdhoppmegdaa", sum := "482b08b6571fe4d9d57fb8e3c74516e8dd074e1c7654bdc2fc92539b3eda7e47", func := "loop.example/g03103/laws.FnExactLivelyOf", spec := "fnExactLivelyOf", apart := false }
def FnExactLivelyOfSaid : Prop := fnExactLivelyOfRow.holds Try.pinned (OpenSpec.ofChange fnExactLivelyOfSpec)

/-- ITS FALSE NEIGHBOUR: 'it returns false'. Refute it at one input. -/
def fnExactLivelyOfWrong : ChangeSpec := { name := "fnExactLivelyOf", fn := fun _ => fun
  | [d] => { results := [.lit (.bool false)], args := [d] }
  | _ => none }
def FnExactLivelyOfWrongFalsely : Prop := fnExactLivelyOfRow.holds Try.pinned (OpenSpec.ofChange fnExactLivelyOfWrong)

/-- 'laws.FnExactPeriodOf': WHATEVER THE INPUT: true; the input reads as it did. -/
def fnExactPeriodOfSpec : ChangeSpec := { name := "fnExactPeriodOf", fn := fun _ => fun
  | [d] => { results := [.lit (.bool true)], args := [d] }
  | _ => none }
def fnExactPeriodOfRow : OpenClaim := { program := "ytmkhdhoppmegdaa", sum := "482b08b6571fe4d9d57fb8e3c74516e8dd074e1c7654bdc2fc92539b3eda7e47", func := "loop.example/g03103/laws.FnExactPeriodOf", spec := "fnExactPeriodOf", apart := false }
def FnExactPeriodOfSaid : Prop := fnExactPeriodOfRow.holds Try.pinned (OpenSpec.ofChange fnExactPeriodOfSpec)

/-- ITS FALSE NEIGHBOUR: 'it returns false'. Refute it at one input. -/
def fnExactPeriodOfWrong : ChangeSpec := { name := "fnExactPeriodOf", fn := fun _ => fun
  | [d] => { results := [.lit (.bool false)], args := [d] }
  | _ => none }
def FnExactPeriodOfWrongFalsely : Prop := fnExactPeriodOfRow.holds Try.pinned (OpenSpec.ofChange fnExactPeriodOfWrong)

/-- 'laws.FnExactComponentsOf': WHATEVER THE INPUT: true; the input reads as it did. -/
def fnExactComponentsOfSpec : ChangeSpec := { name := "fnExactComponentsOf", fn := fun _ => fun
  | [d] => { results := [.lit (.bool true)], args := [d] }
  | _ => none }
def fnExactComponentsOfRow : OpenClaim := { program := "ytmkhdhoppmegdaa", sum := "482b08b6571fe4d9d57fb8e3c74516e8dd074e1c7654bdc2fc92539b3eda7e47", func := "loop.example/g03103/laws.FnExactComponentsOf", spec := "fnExactComponentsOf", apart := false }
def FnExactComponentsOfSaid : Prop := fnExactComponentsOfRow.holds Try.pinned (OpenSpec.ofChange fnExactComponentsOfSpec)

/-- ITS FALSE NEIGHBOUR: 'it returns false'. Refute it at one input. -/
def fnExactComponentsOfWrong : ChangeSpec := { name := "fnExactComponentsOf", fn := fun _ => fun
  | [d] => { results := [.lit (.bool false)], args := [d] }
  | _ => none }
def FnExactComponentsOfWrongFalsely : Prop := fnExactComponentsOfRow.holds Try.pinned (OpenSpec.ofChange fnExactComponentsOfWrong)

/- THE SECOND FORM. 'bulk': how many values and letters a reading holds, each counted each time it is reached (what is shared counts as often as it is met; a slice's spare places count too). A statement '..UptoSaid' is the law's where the arguments, and the package variables that the reading takes, are together of bulk at most 1048576: NARROWER than '..Said'. Prove '..Said' where nothing that the law and all that it calls make is longer than what came in: it says more and counts as full. Else prove '..UptoSaid'. A law counts once. -/
mutual
def uptoBulk {H : Type} : DataW H → Nat
  | .lit (.string bytes) => bytes.length + 1
  | .lit _ => 1
  | .nil => 1
  | .ptr d => uptoBulk d + 1
  | .slice elems spare => uptoBulkAll elems + uptoBulkAll spare + 1
  | .agg parts => uptoBulkAll parts + 1
  | .iface _ d => uptoBulk d + 1
  | .map entries => uptoBulkEntries entries + 1
  | .held _ => 1
def uptoBulkAll {H : Type} : List (DataW H) → Nat
  | [] => 0
  | d :: r => uptoBulk d + uptoBulkAll r
def uptoBulkEntries {H : Type} : List (Lit × DataW H) → Nat
  | [] => 0
  | x :: r => uptoBulkEntry x + uptoBulkEntries r
def uptoBulkEntry {H : Type} : Lit × DataW H → Nat
  | (.string bytes, d) => bytes.length + uptoBulk d + 1
  | (_, d) => uptoBulk d + 1
 end
def uptoSmall : (H : Type) → List (DataW H) → Bool := fun _ ds => decide (uptoBulkAll ds ≤ 1048576)
def OpenSpec.upto (s : _root_.Go.ChangeSpec) : _root_.Go.OpenSpec := { _root_.Go.OpenSpec.ofChange s with cond := some uptoSmall }

/-- 'laws.FnExactSumOf', WHERE WHAT IT READS IS OF BULK AT MOST 1048576: true; the input reads as it did. -/
def fnExactSumOfUptoRow : OpenClaim := { program := "ytmkhdhoppmegdaa", sum := "482b08b6571fe4d9d57fb8e3c74516e8dd074e1c7654bdc2fc92539b3eda7e47", func := "loop.example/g03103/laws.FnExactSumOf", spec := "fnExactSumOf", apart := false, narrowed := true }
def FnExactSumOfUptoSaid : Prop := fnExactSumOfUptoRow.holds Try.pinned (OpenSpec.upto fnExactSumOfSpec)

/-- 'laws.FnExactIsGraph', WHERE WHAT IT READS IS OF BULK AT MOST 1048576: true; the input reads as it did. -/
def fnExactIsGraphUptoRow : OpenClaim := { program := "ytmkhdhoppmegdaa", sum := "482b08b6571fe4d9d57fb8e3c74516e8dd074e1c7654bdc2fc92539b3eda7e47", func := "loop.example/g03103/laws.FnExactIsGraph", spec := "fnExactIsGraph", apart := false, narrowed := true }
def FnExactIsGraphUptoSaid : Prop := fnExactIsGraphUptoRow.holds Try.pinned (OpenSpec.upto fnExactIsGraphSpec)

/-- 'laws.FnExactTurnMatrix', WHERE WHAT IT READS IS OF BULK AT MOST 1048576: true; the input reads as it did. -/
def fnExactTurnMatrixUptoRow : OpenClaim := { program := "ytmkhdhoppmegdaa", sum := "482b08b6571fe4d9d57fb8e3c74516e8dd074e1c7654bdc2fc92539b3eda7e47", func := "loop.example/g03103/laws.FnExactTurnMatrix", spec := "fnExactTurnMatrix", apart := false, narrowed := true }
def FnExactTurnMatrixUptoSaid : Prop := fnExactTurnMatrixUptoRow.holds Try.pinned (OpenSpec.upto fnExactTurnMatrixSpec)

/-- 'laws.FnExactIsPath', WHERE WHAT IT READS IS OF BULK AT MOST 1048576: true; the input reads as it did. -/
def fnExactIsPathUptoRow : OpenClaim := { program := "ytmkhdhoppmegdaa", sum := "482b08b6571fe4d9d57fb8e3c74516e8dd074e1c7654bdc2fc92539b3eda7e47", func := "loop.example/g03103/laws.FnExactIsPath", spec := "fnExactIsPath", apart := false, narrowed := true }
def FnExactIsPathUptoSaid : Prop := fnExactIsPathUptoRow.holds Try.pinned (OpenSpec.upto fnExactIsPathSpec)

/-- 'laws.FnExactIsLively', WHERE WHAT IT READS IS OF BULK AT MOST 1048576: true; the input reads as it did. -/
def fnExactIsLivelyUptoRow : OpenClaim := { program := "ytmkhdhoppmegdaa", sum := "482b08b6571fe4d9d57fb8e3c74516e8dd074e1c7654bdc2fc92539b3eda7e47", func := "loop.example/g03103/laws.FnExactIsLively", spec := "fnExactIsLively", apart := false, narrowed := true }
def FnExactIsLivelyUptoSaid : Prop := fnExactIsLivelyUptoRow.holds Try.pinned (OpenSpec.upto fnExactIsLivelySpec)

/-- 'laws.FnExactMultiplyMatrices', WHERE WHAT IT READS IS OF BULK AT MOST 1048576: true; the input reads as it did. -/
def fnExactMultiplyMatricesUptoRow : OpenClaim := { program := "ytmkhdhoppmegdaa", sum := "482b08b6571fe4d9d57fb8e3c74516e8dd074e1c7654bdc2fc92539b3eda7e47", func := "loop.example/g03103/laws.FnExactMultiplyMatrices", spec := "fnExactMultiplyMatrices", apart := false, narrowed := true }
def FnExactMultiplyMatricesUptoSaid : Prop := fnExactMultiplyMatricesUptoRow.holds Try.pinned (OpenSpec.upto fnExactMultiplyMatricesSpec)

/-- 'laws.FnExactIsIrreducible', WHERE WHAT IT READS IS OF BULK AT MOST 1048576: true; the input reads as it did. -/
def fnExactIsIrreducibleUptoRow : OpenClaim := { program := "ytmkhdhoppmegdaa", sum := "482b08b6571fe4d9d57fb8e3c74516e8dd074e1c7654bdc2fc92539b3eda7e47", func := "loop.example/g03103/laws.FnExactIsIrreducible", spec := "fnExactIsIrreducible", apart := false, narrowed := true }
def FnExactIsIrreducibleUptoSaid : Prop := fnExactIsIrreducibleUptoRow.holds Try.pinned (OpenSpec.upto fnExactIsIrreducibleSpec)

/-- 'laws.FnExactReachOf', WHERE WHAT IT READS IS OF BULK AT MOST 1048576: true; the input reads as it did. -/
def fnExactReachOfUptoRow : OpenClaim := { program := "ytmkhdhoppmegdaa", sum := "482b08b6571fe4d9d57fb8e3c74516e8dd074e1c7654bdc2fc92539b3eda7e47", func := "loop.example/g03103/laws.FnExactReachOf", spec := "fnExactReachOf", apart := false, narrowed := true }
def FnExactReachOfUptoSaid : Prop := fnExactReachOfUptoRow.holds Try.pinned (OpenSpec.upto fnExactReachOfSpec)

/-- 'laws.FnExactArcsOf', WHERE WHAT IT READS IS OF BULK AT MOST 1048576: true; the input reads as it did. -/
def fnExactArcsOfUptoRow : OpenClaim := { program := "ytmkhdhoppmegdaa", sum := "482b08b6571fe4d9d57fb8e3c74516e8dd074e1c7654bdc2fc92539b3eda7e47", func := "loop.example/g03103/laws.FnExactArcsOf", spec := "fnExactArcsOf", apart := false, narrowed := true }
def FnExactArcsOfUptoSaid : Prop := fnExactArcsOfUptoRow.holds Try.pinned (OpenSpec.upto fnExactArcsOfSpec)

/-- 'laws.FnExactLivelyOf', WHERE WHAT IT READS IS OF BULK AT MOST 1048576: true; the input reads as it did. -/
def fnExactLivelyOfUptoRow : OpenClaim := { program := "ytmkhdhoppmegdaa", sum := "482b08b6571fe4d9d57fb8e3c74516e8dd074e1c7654bdc2fc92539b3eda7e47", func := "loop.example/g03103/laws.FnExactLivelyOf", spec := "fnExactLivelyOf", apart := false, narrowed := true }
def FnExactLivelyOfUptoSaid : Prop := fnExactLivelyOfUptoRow.holds Try.pinned (OpenSpec.upto fnExactLivelyOfSpec)

/-- 'laws.FnExactPeriodOf', WHERE WHAT IT READS IS OF BULK AT MOST 1048576: true; the input reads as it did. -/
def fnExactPeriodOfUptoRow : OpenClaim := { program := "ytmkhdhoppmegdaa", sum := "482b08b6571fe4d9d57fb8e3c74516e8dd074e1c7654bdc2fc92539b3eda7e47", func := "loop.example/g03103/laws.FnExactPeriodOf", spec := "fnExactPeriodOf", apart := false, narrowed := true }
def FnExactPeriodOfUptoSaid : Prop := fnExactPeriodOfUptoRow.holds Try.pinned (OpenSpec.upto fnExactPeriodOfSpec)

/-- 'laws.FnExactComponentsOf', WHERE WHAT IT READS IS OF BULK AT MOST 1048576: true; the input reads as it did. -/
def fnExactComponentsOfUptoRow : OpenClaim := { program := "ytmkhdhoppmegdaa", sum := "482b08b6571fe4d9d57fb8e3c74516e8dd074e1c7654bdc2fc92539b3eda7e47", func := "loop.example/g03103/laws.FnExactComponentsOf", spec := "fnExactComponentsOf", apart := false, narrowed := true }
def FnExactComponentsOfUptoSaid : Prop := fnExactComponentsOfUptoRow.holds Try.pinned (OpenSpec.upto fnExactComponentsOfSpec)

end Rows
end Go.Proofs.Ytmkhdhoppmegdaa
