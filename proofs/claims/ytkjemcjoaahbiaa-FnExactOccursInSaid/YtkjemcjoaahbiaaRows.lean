/-
  No cell of these rows narrows 'for every input' (looked for: loops, veiled, ifaces, maps, wideKeys, modest, calm, conditions, laid).
  DERIVED. THE GIVEN ROWS OF THIS SEAT. 11 by the template 'for every input the law returns true; each argument reads behind the call as it read before'; 0 by the template 'total and deterministic' (their statements: YtkjemcjoaahbiaaTotals.lean).
  GIVEN WITH THE SEED: the statements are not yours to turn. If you find one false, say at which input.
  Laid BY PROGRAM, IN A SANDBOX (cutbox-rows.mjs): the forced cells as the released guide's own fill.sh prints them over the translation 8e4355514f77fc7c… (all of the seat's roots in one cut). By AI agents, Wed Nov 11 2026. No macro, syntax, notation, axiom, sorry.
-/
import Derived.Test.YtkjemcjoaahbiaaChecked
import GoSem.Claim
import GoSem.ClaimJoined
import GoSem.ClaimMapViews
import Derived.JoinedTies
import Derived.KernelRfl
namespace Go.Proofs.Ytkjemcjoaahbiaa
/- THE CELL 'sum', in the pinned program and in every row, IS THE sha256 OF THE DUMP (.gsa) THAT YtkjemcjoaahbiaaProg.lean LOADS. Nothing in Lean hashes anything: it is a label: what it is worth is what the hold of that sum in a sandbox is worth. -/
noncomputable def Try.pinned : Pinned := { name := "ytkjemcjoaahbiaa", sum := "8e4355514f77fc7c7bad159b59513103ba88c456b2631ce4faeec2080295e9f2", checked := Try.checked }
namespace Rows
def none {H : Type} : Left H := { results := [], args := [] }

/-- 'laws.FnExactConstants': WHATEVER THE INPUT: true; the input reads as it did. -/
def fnExactConstantsSpec : ChangeSpec := { name := "fnExactConstants", fn := fun _ => fun
  | [] => { results := [.lit (.bool true)], args := [] }
  | _ => none }
def fnExactConstantsRow : OpenClaim := { program := "ytkjemcjoaahbiaa", sum := "8e4355514f77fc7c7bad159b59513103ba88c456b2631ce4faeec2080295e9f2", func := "loop.example/g03103/laws.FnExactConstants", spec := "fnExactConstants", apart := false }
def FnExactConstantsSaid : Prop := fnExactConstantsRow.holds Try.pinned (OpenSpec.ofChange fnExactConstantsSpec)

/-- ITS FALSE NEIGHBOUR: 'it returns false'. Refute it at one input. -/
def fnExactConstantsWrong : ChangeSpec := { name := "fnExactConstants", fn := fun _ => fun
  | [] => { results := [.lit (.bool false)], args := [] }
  | _ => none }
def FnExactConstantsWrongFalsely : Prop := fnExactConstantsRow.holds Try.pinned (OpenSpec.ofChange fnExactConstantsWrong)

/-- 'laws.FnExactMirrorWord': WHATEVER THE INPUT: true; the input reads as it did. -/
def fnExactMirrorWordSpec : ChangeSpec := { name := "fnExactMirrorWord", fn := fun _ => fun
  | [d] => { results := [.lit (.bool true)], args := [d] }
  | _ => none }
def fnExactMirrorWordRow : OpenClaim := { program := "ytkjemcjoaahbiaa", sum := "8e4355514f77fc7c7bad159b59513103ba88c456b2631ce4faeec2080295e9f2", func := "loop.example/g03103/laws.FnExactMirrorWord", spec := "fnExactMirrorWord", apart := false }
def FnExactMirrorWordSaid : Prop := fnExactMirrorWordRow.holds Try.pinned (OpenSpec.ofChange fnExactMirrorWordSpec)

/-- ITS FALSE NEIGHBOUR: 'it returns false'. Refute it at one input. -/
def fnExactMirrorWordWrong : ChangeSpec := { name := "fnExactMirrorWord", fn := fun _ => fun
  | [d] => { results := [.lit (.bool false)], args := [d] }
  | _ => none }
def FnExactMirrorWordWrongFalsely : Prop := fnExactMirrorWordRow.holds Try.pinned (OpenSpec.ofChange fnExactMirrorWordWrong)

/-- 'laws.FnExactIsWord': WHATEVER THE INPUT: true; the input reads as it did. -/
def fnExactIsWordSpec : ChangeSpec := { name := "fnExactIsWord", fn := fun _ => fun
  | [d1, d2] => { results := [.lit (.bool true)], args := [d1, d2] }
  | _ => none }
def fnExactIsWordRow : OpenClaim := { program := "ytkjemcjoaahbiaa", sum := "8e4355514f77fc7c7bad159b59513103ba88c456b2631ce4faeec2080295e9f2", func := "loop.example/g03103/laws.FnExactIsWord", spec := "fnExactIsWord", apart := false }
def FnExactIsWordSaid : Prop := fnExactIsWordRow.holds Try.pinned (OpenSpec.ofChange fnExactIsWordSpec)

/-- ITS FALSE NEIGHBOUR: 'it returns false'. Refute it at one input. -/
def fnExactIsWordWrong : ChangeSpec := { name := "fnExactIsWord", fn := fun _ => fun
  | [d1, d2] => { results := [.lit (.bool false)], args := [d1, d2] }
  | _ => none }
def FnExactIsWordWrongFalsely : Prop := fnExactIsWordRow.holds Try.pinned (OpenSpec.ofChange fnExactIsWordWrong)

/-- 'laws.FnExactTurnWord': WHATEVER THE INPUT: true; the input reads as it did. -/
def fnExactTurnWordSpec : ChangeSpec := { name := "fnExactTurnWord", fn := fun _ => fun
  | [d1, d2] => { results := [.lit (.bool true)], args := [d1, d2] }
  | _ => none }
def fnExactTurnWordRow : OpenClaim := { program := "ytkjemcjoaahbiaa", sum := "8e4355514f77fc7c7bad159b59513103ba88c456b2631ce4faeec2080295e9f2", func := "loop.example/g03103/laws.FnExactTurnWord", spec := "fnExactTurnWord", apart := false }
def FnExactTurnWordSaid : Prop := fnExactTurnWordRow.holds Try.pinned (OpenSpec.ofChange fnExactTurnWordSpec)

/-- ITS FALSE NEIGHBOUR: 'it returns false'. Refute it at one input. -/
def fnExactTurnWordWrong : ChangeSpec := { name := "fnExactTurnWord", fn := fun _ => fun
  | [d1, d2] => { results := [.lit (.bool false)], args := [d1, d2] }
  | _ => none }
def FnExactTurnWordWrongFalsely : Prop := fnExactTurnWordRow.holds Try.pinned (OpenSpec.ofChange fnExactTurnWordWrong)

/-- 'laws.FnExactLeastTurn': WHATEVER THE INPUT: true; the input reads as it did. -/
def fnExactLeastTurnSpec : ChangeSpec := { name := "fnExactLeastTurn", fn := fun _ => fun
  | [d] => { results := [.lit (.bool true)], args := [d] }
  | _ => none }
def fnExactLeastTurnRow : OpenClaim := { program := "ytkjemcjoaahbiaa", sum := "8e4355514f77fc7c7bad159b59513103ba88c456b2631ce4faeec2080295e9f2", func := "loop.example/g03103/laws.FnExactLeastTurn", spec := "fnExactLeastTurn", apart := false }
def FnExactLeastTurnSaid : Prop := fnExactLeastTurnRow.holds Try.pinned (OpenSpec.ofChange fnExactLeastTurnSpec)

/-- ITS FALSE NEIGHBOUR: 'it returns false'. Refute it at one input. -/
def fnExactLeastTurnWrong : ChangeSpec := { name := "fnExactLeastTurn", fn := fun _ => fun
  | [d] => { results := [.lit (.bool false)], args := [d] }
  | _ => none }
def FnExactLeastTurnWrongFalsely : Prop := fnExactLeastTurnRow.holds Try.pinned (OpenSpec.ofChange fnExactLeastTurnWrong)

/-- 'laws.FnExactIsMatrix': WHATEVER THE INPUT: true; the input reads as it did. -/
def fnExactIsMatrixSpec : ChangeSpec := { name := "fnExactIsMatrix", fn := fun _ => fun
  | [d] => { results := [.lit (.bool true)], args := [d] }
  | _ => none }
def fnExactIsMatrixRow : OpenClaim := { program := "ytkjemcjoaahbiaa", sum := "8e4355514f77fc7c7bad159b59513103ba88c456b2631ce4faeec2080295e9f2", func := "loop.example/g03103/laws.FnExactIsMatrix", spec := "fnExactIsMatrix", apart := false }
def FnExactIsMatrixSaid : Prop := fnExactIsMatrixRow.holds Try.pinned (OpenSpec.ofChange fnExactIsMatrixSpec)

/-- ITS FALSE NEIGHBOUR: 'it returns false'. Refute it at one input. -/
def fnExactIsMatrixWrong : ChangeSpec := { name := "fnExactIsMatrix", fn := fun _ => fun
  | [d] => { results := [.lit (.bool false)], args := [d] }
  | _ => none }
def FnExactIsMatrixWrongFalsely : Prop := fnExactIsMatrixRow.holds Try.pinned (OpenSpec.ofChange fnExactIsMatrixWrong)

/-- 'laws.FnExactIsShift': WHATEVER THE INPUT: true; the input reads as it did. -/
def fnExactIsShiftSpec : ChangeSpec := { name := "fnExactIsShift", fn := fun _ => fun
  | [d] => { results := [.lit (.bool true)], args := [d] }
  | _ => none }
def fnExactIsShiftRow : OpenClaim := { program := "ytkjemcjoaahbiaa", sum := "8e4355514f77fc7c7bad159b59513103ba88c456b2631ce4faeec2080295e9f2", func := "loop.example/g03103/laws.FnExactIsShift", spec := "fnExactIsShift", apart := false }
def FnExactIsShiftSaid : Prop := fnExactIsShiftRow.holds Try.pinned (OpenSpec.ofChange fnExactIsShiftSpec)

/-- ITS FALSE NEIGHBOUR: 'it returns false'. Refute it at one input. -/
def fnExactIsShiftWrong : ChangeSpec := { name := "fnExactIsShift", fn := fun _ => fun
  | [d] => { results := [.lit (.bool false)], args := [d] }
  | _ => none }
def FnExactIsShiftWrongFalsely : Prop := fnExactIsShiftRow.holds Try.pinned (OpenSpec.ofChange fnExactIsShiftWrong)

/-- 'laws.FnExactEqualMatrix': WHATEVER THE INPUT: true; the input reads as it did. -/
def fnExactEqualMatrixSpec : ChangeSpec := { name := "fnExactEqualMatrix", fn := fun _ => fun
  | [d1, d2] => { results := [.lit (.bool true)], args := [d1, d2] }
  | _ => none }
def fnExactEqualMatrixRow : OpenClaim := { program := "ytkjemcjoaahbiaa", sum := "8e4355514f77fc7c7bad159b59513103ba88c456b2631ce4faeec2080295e9f2", func := "loop.example/g03103/laws.FnExactEqualMatrix", spec := "fnExactEqualMatrix", unfollowed := true, recurses := true, apart := false }
def FnExactEqualMatrixSaid : Prop := fnExactEqualMatrixRow.holds Try.pinned (OpenSpec.ofChange fnExactEqualMatrixSpec)

/-- ITS FALSE NEIGHBOUR: 'it returns false'. Refute it at one input. -/
def fnExactEqualMatrixWrong : ChangeSpec := { name := "fnExactEqualMatrix", fn := fun _ => fun
  | [d1, d2] => { results := [.lit (.bool false)], args := [d1, d2] }
  | _ => none }
def FnExactEqualMatrixWrongFalsely : Prop := fnExactEqualMatrixRow.holds Try.pinned (OpenSpec.ofChange fnExactEqualMatrixWrong)

/-- 'laws.FnExactTraceOf': WHATEVER THE INPUT: true; the input reads as it did. -/
def fnExactTraceOfSpec : ChangeSpec := { name := "fnExactTraceOf", fn := fun _ => fun
  | [d] => { results := [.lit (.bool true)], args := [d] }
  | _ => none }
def fnExactTraceOfRow : OpenClaim := { program := "ytkjemcjoaahbiaa", sum := "8e4355514f77fc7c7bad159b59513103ba88c456b2631ce4faeec2080295e9f2", func := "loop.example/g03103/laws.FnExactTraceOf", spec := "fnExactTraceOf", apart := false }
def FnExactTraceOfSaid : Prop := fnExactTraceOfRow.holds Try.pinned (OpenSpec.ofChange fnExactTraceOfSpec)

/-- ITS FALSE NEIGHBOUR: 'it returns false'. Refute it at one input. -/
def fnExactTraceOfWrong : ChangeSpec := { name := "fnExactTraceOf", fn := fun _ => fun
  | [d] => { results := [.lit (.bool false)], args := [d] }
  | _ => none }
def FnExactTraceOfWrongFalsely : Prop := fnExactTraceOfRow.holds Try.pinned (OpenSpec.ofChange fnExactTraceOfWrong)

/-- 'laws.FnExactOccursIn': WHATEVER THE INPUT: true; the input reads as it did. -/
def fnExactOccursInSpec : ChangeSpec := { name := "fnExactOccursIn", fn := fun _ => fun
  | [d1, d2] => { results := [.lit (.bool true)], args := [d1, d2] }
  | _ => none }
def fnExactOccursInRow : OpenClaim := { program := "ytkjemcjoaahbiaa", sum := "8e4355514f77fc7c7bad159b59513103ba88c456b2631ce4faeec2080295e9f2", func := "loop.example/g03103/laws.FnExactOccursIn", spec := "fnExactOccursIn", inPlace := ["internal/bytealg.IndexByteString", "internal/bytealg.IndexString"], named := ["internal/bytealg.MaxLen"], apart := false }
def FnExactOccursInSaid : Prop := fnExactOccursInRow.holds Try.pinned (OpenSpec.ofChange fnExactOccursInSpec)

/-- ITS FALSE NEIGHBOUR: 'it returns false'. Refute it at one input. -/
def fnExactOccursInWrong : ChangeSpec := { name := "fnExactOccursIn", fn := fun _ => fun
  | [d1, d2] => { results := [.lit (.bool false)], args := [d1, d2] }
  | _ => none }
def FnExactOccursInWrongFalsely : Prop := fnExactOccursInRow.holds Try.pinned (OpenSpec.ofChange fnExactOccursInWrong)

/-- 'laws.FnExactJoin': WHATEVER THE INPUT: true; the input reads as it did. -/
def fnExactJoinSpec : ChangeSpec := { name := "fnExactJoin", fn := fun _ => fun
  | [d1, d2] => { results := [.lit (.bool true)], args := [d1, d2] }
  | _ => none }
def fnExactJoinRow : OpenClaim := { program := "ytkjemcjoaahbiaa", sum := "8e4355514f77fc7c7bad159b59513103ba88c456b2631ce4faeec2080295e9f2", func := "loop.example/g03103/laws.FnExactJoin", spec := "fnExactJoin", inPlace := ["internal/abi.NoEscape", "internal/bytealg.MakeNoZero"], apart := false }
def FnExactJoinSaid : Prop := fnExactJoinRow.holds Try.pinned (OpenSpec.ofChange fnExactJoinSpec)

/-- ITS FALSE NEIGHBOUR: 'it returns false'. Refute it at one input. -/
def fnExactJoinWrong : ChangeSpec := { name := "fnExactJoin", fn := fun _ => fun
  | [d1, d2] => { results := [.lit (.bool false)], args := [d1, d2] }
  | _ => none }
def FnExactJoinWrongFalsely : Prop := fnExactJoinRow.holds Try.pinned (OpenSpec.ofChange fnExactJoinWrong)

/- THE SECOND FORM. 'bulk': how many values and letters a reading holds, each counted each time it is reached (what is shared counts as often as it is met; a slice's spare places count too). A statement '..UptoSaid' is the law's where the arguments, and the package variables that the reading takes, are together of bulk at most 1048576: NARROWER than '..Said'. Prove '..Said' where nothing that the law and all that it calls make is longer than what came in: it says more and counts as full. Else prove '..UptoSaid'. A law counts once. -/
mutual
def uptoBulk {H : Type} : DataW H → Nat
  | .lit (.string bytes) => bytes.length + 1
  | .lit _ => 1
  | .nil => 1
  | .ptr d => uptoBulk d + 1
  | .slice elems spare => uptoBulkAll elems + uptoBulkAll spare + 1
  | .agg parts => uptoBulkAll parts + 1
  | .iface _ d => uptoBulk d + 1
  | .map entries => uptoBulkEntries entries + 1
  | .held _ => 1
def uptoBulkAll {H : Type} : List (DataW H) → Nat
  | [] => 0
  | d :: r => uptoBulk d + uptoBulkAll r
def uptoBulkEntries {H : Type} : List (Lit × DataW H) → Nat
  | [] => 0
  | x :: r => uptoBulkEntry x + uptoBulkEntries r
def uptoBulkEntry {H : Type} : Lit × DataW H → Nat
  | (.string bytes, d) => bytes.length + uptoBulk d + 1
  | (_, d) => uptoBulk d + 1
 end
def uptoSmall : (H : Type) → List (DataW H) → Bool := fun _ ds => decide (uptoBulkAll ds ≤ 1048576)
def OpenSpec.upto (s : _root_.Go.ChangeSpec) : _root_.Go.OpenSpec := { _root_.Go.OpenSpec.ofChange s with cond := some uptoSmall }

/-- 'laws.FnExactConstants', WHERE WHAT IT READS IS OF BULK AT MOST 1048576: true; the input reads as it did. -/
def fnExactConstantsUptoRow : OpenClaim := { program := "ytkjemcjoaahbiaa", sum := "8e4355514f77fc7c7bad159b59513103ba88c456b2631ce4faeec2080295e9f2", func := "loop.example/g03103/laws.FnExactConstants", spec := "fnExactConstants", apart := false, narrowed := true }
def FnExactConstantsUptoSaid : Prop := fnExactConstantsUptoRow.holds Try.pinned (OpenSpec.upto fnExactConstantsSpec)

/-- 'laws.FnExactMirrorWord', WHERE WHAT IT READS IS OF BULK AT MOST 1048576: true; the input reads as it did. -/
def fnExactMirrorWordUptoRow : OpenClaim := { program := "ytkjemcjoaahbiaa", sum := "8e4355514f77fc7c7bad159b59513103ba88c456b2631ce4faeec2080295e9f2", func := "loop.example/g03103/laws.FnExactMirrorWord", spec := "fnExactMirrorWord", apart := false, narrowed := true }
def FnExactMirrorWordUptoSaid : Prop := fnExactMirrorWordUptoRow.holds Try.pinned (OpenSpec.upto fnExactMirrorWordSpec)

/-- 'laws.FnExactIsWord', WHERE WHAT IT READS IS OF BULK AT MOST 1048576: true; the input reads as it did. -/
def fnExactIsWordUptoRow : OpenClaim := { program := "ytkjemcjoaahbiaa", sum := "8e4355514f77fc7c7bad159b59513103ba88c456b2631ce4faeec2080295e9f2", func := "loop.example/g03103/laws.FnExactIsWord", spec := "fnExactIsWord", apart := false, narrowed := true }
def FnExactIsWordUptoSaid : Prop := fnExactIsWordUptoRow.holds Try.pinned (OpenSpec.upto fnExactIsWordSpec)

/-- 'laws.FnExactTurnWord', WHERE WHAT IT READS IS OF BULK AT MOST 1048576: true; the input reads as it did. -/
def fnExactTurnWordUptoRow : OpenClaim := { program := "ytkjemcjoaahbiaa", sum := "8e4355514f77fc7c7bad159b59513103ba88c456b2631ce4faeec2080295e9f2", func := "loop.example/g03103/laws.FnExactTurnWord", spec := "fnExactTurnWord", apart := false, narrowed := true }
def FnExactTurnWordUptoSaid : Prop := fnExactTurnWordUptoRow.holds Try.pinned (OpenSpec.upto fnExactTurnWordSpec)

/-- 'laws.FnExactLeastTurn', WHERE WHAT IT READS IS OF BULK AT MOST 1048576: true; the input reads as it did. -/
def fnExactLeastTurnUptoRow : OpenClaim := { program := "ytkjemcjoaahbiaa", sum := "8e4355514f77fc7c7bad159b59513103ba88c456b2631ce4faeec2080295e9f2", func := "loop.example/g03103/laws.FnExactLeastTurn", spec := "fnExactLeastTurn", apart := false, narrowed := true }
def FnExactLeastTurnUptoSaid : Prop := fnExactLeastTurnUptoRow.holds Try.pinned (OpenSpec.upto fnExactLeastTurnSpec)

/-- 'laws.FnExactIsMatrix', WHERE WHAT IT READS IS OF BULK AT MOST 1048576: true; the input reads as it did. -/
def fnExactIsMatrixUptoRow : OpenClaim := { program := "ytkjemcjoaahbiaa", sum := "8e4355514f77fc7c7bad159b59513103ba88c456b2631ce4faeec2080295e9f2", func := "loop.example/g03103/laws.FnExactIsMatrix", spec := "fnExactIsMatrix", apart := false, narrowed := true }
def FnExactIsMatrixUptoSaid : Prop := fnExactIsMatrixUptoRow.holds Try.pinned (OpenSpec.upto fnExactIsMatrixSpec)

/-- 'laws.FnExactIsShift', WHERE WHAT IT READS IS OF BULK AT MOST 1048576: true; the input reads as it did. -/
def fnExactIsShiftUptoRow : OpenClaim := { program := "ytkjemcjoaahbiaa", sum := "8e4355514f77fc7c7bad159b59513103ba88c456b2631ce4faeec2080295e9f2", func := "loop.example/g03103/laws.FnExactIsShift", spec := "fnExactIsShift", apart := false, narrowed := true }
def FnExactIsShiftUptoSaid : Prop := fnExactIsShiftUptoRow.holds Try.pinned (OpenSpec.upto fnExactIsShiftSpec)

/-- 'laws.FnExactEqualMatrix', WHERE WHAT IT READS IS OF BULK AT MOST 1048576: true; the input reads as it did. -/
def fnExactEqualMatrixUptoRow : OpenClaim := { program := "ytkjemcjoaahbiaa", sum := "8e4355514f77fc7c7bad159b59513103ba88c456b2631ce4faeec2080295e9f2", func := "loop.example/g03103/laws.FnExactEqualMatrix", spec := "fnExactEqualMatrix", unfollowed := true, recurses := true, apart := false, narrowed := true }
def FnExactEqualMatrixUptoSaid : Prop := fnExactEqualMatrixUptoRow.holds Try.pinned (OpenSpec.upto fnExactEqualMatrixSpec)

/-- 'laws.FnExactTraceOf', WHERE WHAT IT READS IS OF BULK AT MOST 1048576: true; the input reads as it did. -/
def fnExactTraceOfUptoRow : OpenClaim := { program := "ytkjemcjoaahbiaa", sum := "8e4355514f77fc7c7bad159b59513103ba88c456b2631ce4faeec2080295e9f2", func := "loop.example/g03103/laws.FnExactTraceOf", spec := "fnExactTraceOf", apart := false, narrowed := true }
def FnExactTraceOfUptoSaid : Prop := fnExactTraceOfUptoRow.holds Try.pinned (OpenSpec.upto fnExactTraceOfSpec)

/-- 'laws.FnExactOccursIn', WHERE WHAT IT READS IS OF BULK AT MOST 1048576: true; the input reads as it did. -/
def fnExactOccursInUptoRow : OpenClaim := { program := "ytkjemcjoaahbiaa", sum := "8e4355514f77fc7c7bad159b59513103ba88c456b2631ce4faeec2080295e9f2", func := "loop.example/g03103/laws.FnExactOccursIn", spec := "fnExactOccursIn", inPlace := ["internal/bytealg.IndexByteString", "internal/bytealg.IndexString"], named := ["internal/bytealg.MaxLen"], apart := false, narrowed := true }
def FnExactOccursInUptoSaid : Prop := fnExactOccursInUptoRow.holds Try.pinned (OpenSpec.upto fnExactOccursInSpec)

/-- 'laws.FnExactJoin', WHERE WHAT IT READS IS OF BULK AT MOST 1048576: true; the input reads as it did. -/
def fnExactJoinUptoRow : OpenClaim := { program := "ytkjemcjoaahbiaa", sum := "8e4355514f77fc7c7bad159b59513103ba88c456b2631ce4faeec2080295e9f2", func := "loop.example/g03103/laws.FnExactJoin", spec := "fnExactJoin", inPlace := ["internal/abi.NoEscape", "internal/bytealg.MakeNoZero"], apart := false, narrowed := true }
def FnExactJoinUptoSaid : Prop := fnExactJoinUptoRow.holds Try.pinned (OpenSpec.upto fnExactJoinSpec)

end Rows
end Go.Proofs.Ytkjemcjoaahbiaa
