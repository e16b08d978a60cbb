/-
  No cell of these rows narrows 'for every input' (looked for: loops, veiled, ifaces, maps, wideKeys, modest, calm, conditions, laid).
  DERIVED. THE GIVEN ROWS OF THIS SEAT. 9 by the template 'for every input the law returns true; each argument reads behind the call as it read before'; 0 by the template 'total and deterministic' (their statements: YtidfnhoeaofgeaaTotals.lean).
  GIVEN WITH THE SEED: the statements are not yours to turn. If you find one false, say at which input.
  Laid BY PROGRAM, IN A SANDBOX (cutbox-rows.mjs): the forced cells as the released guide's own fill.sh prints them over the translation 8c0d99cca15fa702… (all of the seat's roots in one cut). By AI agents, Wed Nov 11 2026. No macro, syntax, notation, axiom, sorry.
-/
import Derived.Test.YtidfnhoeaofgeaaChecked
import GoSem.Claim
import GoSem.ClaimJoined
import GoSem.ClaimMapViews
import Derived.JoinedTies
import Derived.KernelRfl
namespace Go.Proofs.Ytidfnhoeaofgeaa
/- THE CELL 'sum', in the pinned program and in every row, IS THE sha256 OF THE DUMP (.gsa) THAT YtidfnhoeaofgeaaProg.lean LOADS. Nothing in Lean hashes anything: it is a label: what it is worth is what the hold of that sum in a sandbox is worth. -/
noncomputable def Try.pinned : Pinned := { name := "ytidfnhoeaofgeaa", sum := "8c0d99cca15fa702ac1f7c68f17bd6d26223b52e42cbc395e628eb09a002c86e", checked := Try.checked }
namespace Rows
def none {H : Type} : Left H := { results := [], args := [] }

/-- 'laws.FnExactRootOf': WHATEVER THE INPUT: true; the input reads as it did. -/
def fnExactRootOfSpec : ChangeSpec := { name := "fnExactRootOf", fn := fun _ => fun
  | [d] => { results := [.lit (.bool true)], args := [d] }
  | _ => none }
def fnExactRootOfRow : OpenClaim := { program := "ytidfnhoeaofgeaa", sum := "8c0d99cca15fa702ac1f7c68f17bd6d26223b52e42cbc395e628eb09a002c86e", func := "loop.example/g03103/laws.FnExactRootOf", spec := "fnExactRootOf", inPlace := ["internal/abi.NoEscape", "internal/bytealg.MakeNoZero"], apart := false }
def FnExactRootOfSaid : Prop := fnExactRootOfRow.holds Try.pinned (OpenSpec.ofChange fnExactRootOfSpec)

/-- ITS FALSE NEIGHBOUR: 'it returns false'. Refute it at one input. -/
def fnExactRootOfWrong : ChangeSpec := { name := "fnExactRootOf", fn := fun _ => fun
  | [d] => { results := [.lit (.bool false)], args := [d] }
  | _ => none }
def FnExactRootOfWrongFalsely : Prop := fnExactRootOfRow.holds Try.pinned (OpenSpec.ofChange fnExactRootOfWrong)

/-- 'laws.FnExactAvoidsAll': WHATEVER THE INPUT: true; the input reads as it did. -/
def fnExactAvoidsAllSpec : ChangeSpec := { name := "fnExactAvoidsAll", fn := fun _ => fun
  | [d1, d2] => { results := [.lit (.bool true)], args := [d1, d2] }
  | _ => none }
def fnExactAvoidsAllRow : OpenClaim := { program := "ytidfnhoeaofgeaa", sum := "8c0d99cca15fa702ac1f7c68f17bd6d26223b52e42cbc395e628eb09a002c86e", func := "loop.example/g03103/laws.FnExactAvoidsAll", spec := "fnExactAvoidsAll", inPlace := ["internal/bytealg.IndexByteString", "internal/bytealg.IndexString"], named := ["internal/bytealg.MaxLen"], apart := false }
def FnExactAvoidsAllSaid : Prop := fnExactAvoidsAllRow.holds Try.pinned (OpenSpec.ofChange fnExactAvoidsAllSpec)

/-- ITS FALSE NEIGHBOUR: 'it returns false'. Refute it at one input. -/
def fnExactAvoidsAllWrong : ChangeSpec := { name := "fnExactAvoidsAll", fn := fun _ => fun
  | [d1, d2] => { results := [.lit (.bool false)], args := [d1, d2] }
  | _ => none }
def FnExactAvoidsAllWrongFalsely : Prop := fnExactAvoidsAllRow.holds Try.pinned (OpenSpec.ofChange fnExactAvoidsAllWrong)

/-- 'laws.FnExactWordsOf': WHATEVER THE INPUT: true; the input reads as it did. -/
def fnExactWordsOfSpec : ChangeSpec := { name := "fnExactWordsOf", fn := fun _ => fun
  | [d1, d2] => { results := [.lit (.bool true)], args := [d1, d2] }
  | _ => none }
def fnExactWordsOfRow : OpenClaim := { program := "ytidfnhoeaofgeaa", sum := "8c0d99cca15fa702ac1f7c68f17bd6d26223b52e42cbc395e628eb09a002c86e", func := "loop.example/g03103/laws.FnExactWordsOf", spec := "fnExactWordsOf", inPlace := ["internal/abi.NoEscape", "internal/bytealg.MakeNoZero"], apart := false }
def FnExactWordsOfSaid : Prop := fnExactWordsOfRow.holds Try.pinned (OpenSpec.ofChange fnExactWordsOfSpec)

/-- ITS FALSE NEIGHBOUR: 'it returns false'. Refute it at one input. -/
def fnExactWordsOfWrong : ChangeSpec := { name := "fnExactWordsOf", fn := fun _ => fun
  | [d1, d2] => { results := [.lit (.bool false)], args := [d1, d2] }
  | _ => none }
def FnExactWordsOfWrongFalsely : Prop := fnExactWordsOfRow.holds Try.pinned (OpenSpec.ofChange fnExactWordsOfWrong)

/-- 'laws.FnExactAvoidingWords': WHATEVER THE INPUT: true; the input reads as it did. -/
def fnExactAvoidingWordsSpec : ChangeSpec := { name := "fnExactAvoidingWords", fn := fun _ => fun
  | [d1, d2] => { results := [.lit (.bool true)], args := [d1, d2] }
  | _ => none }
def fnExactAvoidingWordsRow : OpenClaim := { program := "ytidfnhoeaofgeaa", sum := "8c0d99cca15fa702ac1f7c68f17bd6d26223b52e42cbc395e628eb09a002c86e", func := "loop.example/g03103/laws.FnExactAvoidingWords", spec := "fnExactAvoidingWords", inPlace := ["internal/bytealg.IndexByteString", "internal/bytealg.IndexString"], unfollowed := true, recurses := true, named := ["internal/bytealg.MaxLen"], apart := false }
def FnExactAvoidingWordsSaid : Prop := fnExactAvoidingWordsRow.holds Try.pinned (OpenSpec.ofChange fnExactAvoidingWordsSpec)

/-- ITS FALSE NEIGHBOUR: 'it returns false'. Refute it at one input. -/
def fnExactAvoidingWordsWrong : ChangeSpec := { name := "fnExactAvoidingWords", fn := fun _ => fun
  | [d1, d2] => { results := [.lit (.bool false)], args := [d1, d2] }
  | _ => none }
def FnExactAvoidingWordsWrongFalsely : Prop := fnExactAvoidingWordsRow.holds Try.pinned (OpenSpec.ofChange fnExactAvoidingWordsWrong)

/-- 'laws.FnExactIsEmptyShift': WHATEVER THE INPUT: true; the input reads as it did. -/
def fnExactIsEmptyShiftSpec : ChangeSpec := { name := "fnExactIsEmptyShift", fn := fun _ => fun
  | [d] => { results := [.lit (.bool true)], args := [d] }
  | _ => none }
def fnExactIsEmptyShiftRow : OpenClaim := { program := "ytidfnhoeaofgeaa", sum := "8c0d99cca15fa702ac1f7c68f17bd6d26223b52e42cbc395e628eb09a002c86e", func := "loop.example/g03103/laws.FnExactIsEmptyShift", spec := "fnExactIsEmptyShift", inPlace := ["internal/bytealg.IndexByteString", "internal/bytealg.IndexString"], unfollowed := true, recurses := true, named := ["internal/bytealg.MaxLen"], apart := false }
def FnExactIsEmptyShiftSaid : Prop := fnExactIsEmptyShiftRow.holds Try.pinned (OpenSpec.ofChange fnExactIsEmptyShiftSpec)

/-- ITS FALSE NEIGHBOUR: 'it returns false'. Refute it at one input. -/
def fnExactIsEmptyShiftWrong : ChangeSpec := { name := "fnExactIsEmptyShift", fn := fun _ => fun
  | [d] => { results := [.lit (.bool false)], args := [d] }
  | _ => none }
def FnExactIsEmptyShiftWrongFalsely : Prop := fnExactIsEmptyShiftRow.holds Try.pinned (OpenSpec.ofChange fnExactIsEmptyShiftWrong)

/-- 'laws.FnExactInLanguage': WHATEVER THE INPUT: true; the input reads as it did. -/
def fnExactInLanguageSpec : ChangeSpec := { name := "fnExactInLanguage", fn := fun _ => fun
  | [d1, d2] => { results := [.lit (.bool true)], args := [d1, d2] }
  | _ => none }
def fnExactInLanguageRow : OpenClaim := { program := "ytidfnhoeaofgeaa", sum := "8c0d99cca15fa702ac1f7c68f17bd6d26223b52e42cbc395e628eb09a002c86e", func := "loop.example/g03103/laws.FnExactInLanguage", spec := "fnExactInLanguage", inPlace := ["internal/bytealg.IndexByteString", "internal/bytealg.IndexString"], unfollowed := true, recurses := true, named := ["internal/bytealg.MaxLen"], apart := false }
def FnExactInLanguageSaid : Prop := fnExactInLanguageRow.holds Try.pinned (OpenSpec.ofChange fnExactInLanguageSpec)

/-- ITS FALSE NEIGHBOUR: 'it returns false'. Refute it at one input. -/
def fnExactInLanguageWrong : ChangeSpec := { name := "fnExactInLanguage", fn := fun _ => fun
  | [d1, d2] => { results := [.lit (.bool false)], args := [d1, d2] }
  | _ => none }
def FnExactInLanguageWrongFalsely : Prop := fnExactInLanguageRow.holds Try.pinned (OpenSpec.ofChange fnExactInLanguageWrong)

/-- 'laws.FnExactLanguageOf': WHATEVER THE INPUT: true; the input reads as it did. -/
def fnExactLanguageOfSpec : ChangeSpec := { name := "fnExactLanguageOf", fn := fun _ => fun
  | [d1, d2] => { results := [.lit (.bool true)], args := [d1, d2] }
  | _ => none }
def fnExactLanguageOfRow : OpenClaim := { program := "ytidfnhoeaofgeaa", sum := "8c0d99cca15fa702ac1f7c68f17bd6d26223b52e42cbc395e628eb09a002c86e", func := "loop.example/g03103/laws.FnExactLanguageOf", spec := "fnExactLanguageOf", inPlace := ["internal/bytealg.IndexByteString", "internal/bytealg.IndexString"], unfollowed := true, recurses := true, named := ["internal/bytealg.MaxLen"], apart := false }
def FnExactLanguageOfSaid : Prop := fnExactLanguageOfRow.holds Try.pinned (OpenSpec.ofChange fnExactLanguageOfSpec)

/-- ITS FALSE NEIGHBOUR: 'it returns false'. Refute it at one input. -/
def fnExactLanguageOfWrong : ChangeSpec := { name := "fnExactLanguageOf", fn := fun _ => fun
  | [d1, d2] => { results := [.lit (.bool false)], args := [d1, d2] }
  | _ => none }
def FnExactLanguageOfWrongFalsely : Prop := fnExactLanguageOfRow.holds Try.pinned (OpenSpec.ofChange fnExactLanguageOfWrong)

/-- 'laws.FnExactFactorsOf': WHATEVER THE INPUT: true; the input reads as it did. -/
def fnExactFactorsOfSpec : ChangeSpec := { name := "fnExactFactorsOf", fn := fun _ => fun
  | [d1, d2] => { results := [.lit (.bool true)], args := [d1, d2] }
  | _ => none }
def fnExactFactorsOfRow : OpenClaim := { program := "ytidfnhoeaofgeaa", sum := "8c0d99cca15fa702ac1f7c68f17bd6d26223b52e42cbc395e628eb09a002c86e", func := "loop.example/g03103/laws.FnExactFactorsOf", spec := "fnExactFactorsOf", recurses := true, apart := false }
def FnExactFactorsOfSaid : Prop := fnExactFactorsOfRow.holds Try.pinned (OpenSpec.ofChange fnExactFactorsOfSpec)

/-- ITS FALSE NEIGHBOUR: 'it returns false'. Refute it at one input. -/
def fnExactFactorsOfWrong : ChangeSpec := { name := "fnExactFactorsOf", fn := fun _ => fun
  | [d1, d2] => { results := [.lit (.bool false)], args := [d1, d2] }
  | _ => none }
def FnExactFactorsOfWrongFalsely : Prop := fnExactFactorsOfRow.holds Try.pinned (OpenSpec.ofChange fnExactFactorsOfWrong)

/-- 'laws.FnWords': WHATEVER THE INPUT: true; the input reads as it did. -/
def fnWordsSpec : ChangeSpec := { name := "fnWords", fn := fun _ => fun
  | [d] => { results := [.lit (.bool true)], args := [d] }
  | _ => none }
def fnWordsRow : OpenClaim := { program := "ytidfnhoeaofgeaa", sum := "8c0d99cca15fa702ac1f7c68f17bd6d26223b52e42cbc395e628eb09a002c86e", func := "loop.example/g03103/laws.FnWords", spec := "fnWords", inPlace := ["internal/abi.NoEscape", "internal/bytealg.MakeNoZero", "internal/bytealg.IndexByteString", "internal/bytealg.IndexString"], recurses := true, named := ["internal/bytealg.MaxLen"], apart := false }
def FnWordsSaid : Prop := fnWordsRow.holds Try.pinned (OpenSpec.ofChange fnWordsSpec)

/-- ITS FALSE NEIGHBOUR: 'it returns false'. Refute it at one input. -/
def fnWordsWrong : ChangeSpec := { name := "fnWords", fn := fun _ => fun
  | [d] => { results := [.lit (.bool false)], args := [d] }
  | _ => none }
def FnWordsWrongFalsely : Prop := fnWordsRow.holds Try.pinned (OpenSpec.ofChange fnWordsWrong)

/- THE SECOND FORM. 'bulk': how many values and letters a reading holds, each counted each time it is reached (what is shared counts as often as it is met; a slice's spare places count too). A statement '..UptoSaid' is the law's where the arguments, and the package variables that the reading takes, are together of bulk at most 1048576: NARROWER than '..Said'. Prove '..Said' where nothing that the law and all that it calls make is longer than what came in: it says more and counts as full. Else prove '..UptoSaid'. A law counts once. -/
mutual
def uptoBulk {H : Type} : DataW H → Nat
  | .lit (.string bytes) => bytes.length + 1
  | .lit _ => 1
  | .nil => 1
  | .ptr d => uptoBulk d + 1
  | .slice elems spare => uptoBulkAll elems + uptoBulkAll spare + 1
  | .agg parts => uptoBulkAll parts + 1
  | .iface _ d => uptoBulk d + 1
  | .map entries => uptoBulkEntries entries + 1
  | .held _ => 1
def uptoBulkAll {H : Type} : List (DataW H) → Nat
  | [] => 0
  | d :: r => uptoBulk d + uptoBulkAll r
def uptoBulkEntries {H : Type} : List (Lit × DataW H) → Nat
  | [] => 0
  | x :: r => uptoBulkEntry x + uptoBulkEntries r
def uptoBulkEntry {H : Type} : Lit × DataW H → Nat
  | (.string bytes, d) => bytes.length + uptoBulk d + 1
  | (_, d) => uptoBulk d + 1
 end
def uptoSmall : (H : Type) → List (DataW H) → Bool := fun _ ds => decide (uptoBulkAll ds ≤ 1048576)
def OpenSpec.upto (s : _root_.Go.ChangeSpec) : _root_.Go.OpenSpec := { _root_.Go.OpenSpec.ofChange s with cond := some uptoSmall }

/-- 'laws.FnExactRootOf', WHERE WHAT IT READS IS OF BULK AT MOST 1048576: true; the input reads as it did. -/
def fnExactRootOfUptoRow : OpenClaim := { program := "ytidfnhoeaofgeaa", sum := "8c0d99cca15fa702ac1f7c68f17bd6d26223b52e42cbc395e628eb09a002c86e", func := "loop.example/g03103/laws.FnExactRootOf", spec := "fnExactRootOf", inPlace := ["internal/abi.NoEscape", "internal/bytealg.MakeNoZero"], apart := false, narrowed := true }
def FnExactRootOfUptoSaid : Prop := fnExactRootOfUptoRow.holds Try.pinned (OpenSpec.upto fnExactRootOfSpec)

/-- 'laws.FnExactAvoidsAll', WHERE WHAT IT READS IS OF BULK AT MOST 1048576: true; the input reads as it did. -/
def fnExactAvoidsAllUptoRow : OpenClaim := { program := "ytidfnhoeaofgeaa", sum := "8c0d99cca15fa702ac1f7c68f17bd6d26223b52e42cbc395e628eb09a002c86e", func := "loop.example/g03103/laws.FnExactAvoidsAll", spec := "fnExactAvoidsAll", inPlace := ["internal/bytealg.IndexByteString", "internal/bytealg.IndexString"], named := ["internal/bytealg.MaxLen"], apart := false, narrowed := true }
def FnExactAvoidsAllUptoSaid : Prop := fnExactAvoidsAllUptoRow.holds Try.pinned (OpenSpec.upto fnExactAvoidsAllSpec)

/-- 'laws.FnExactWordsOf', WHERE WHAT IT READS IS OF BULK AT MOST 1048576: true; the input reads as it did. -/
def fnExactWordsOfUptoRow : OpenClaim := { program := "ytidfnhoeaofgeaa", sum := "8c0d99cca15fa702ac1f7c68f17bd6d26223b52e42cbc395e628eb09a002c86e", func := "loop.example/g03103/laws.FnExactWordsOf", spec := "fnExactWordsOf", inPlace := ["internal/abi.NoEscape", "internal/bytealg.MakeNoZero"], apart := false, narrowed := true }
def FnExactWordsOfUptoSaid : Prop := fnExactWordsOfUptoRow.holds Try.pinned (OpenSpec.upto fnExactWordsOfSpec)

/-- 'laws.FnExactAvoidingWords', WHERE WHAT IT READS IS OF BULK AT MOST 1048576: true; the input reads as it did. -/
def fnExactAvoidingWordsUptoRow : OpenClaim := { program := "ytidfnhoeaofgeaa", sum := "8c0d99cca15fa702ac1f7c68f17bd6d26223b52e42cbc395e628eb09a002c86e", func := "loop.example/g03103/laws.FnExactAvoidingWords", spec := "fnExactAvoidingWords", inPlace := ["internal/bytealg.IndexByteString", "internal/bytealg.IndexString"], unfollowed := true, recurses := true, named := ["internal/bytealg.MaxLen"], apart := false, narrowed := true }
def FnExactAvoidingWordsUptoSaid : Prop := fnExactAvoidingWordsUptoRow.holds Try.pinned (OpenSpec.upto fnExactAvoidingWordsSpec)

/-- 'laws.FnExactIsEmptyShift', WHERE WHAT IT READS IS OF BULK AT MOST 1048576: true; the input reads as it did. -/
def fnExactIsEmptyShiftUptoRow : OpenClaim := { program := "ytidfnhoeaofgeaa", sum := "8c0d99cca15fa702ac1f7c68f17bd6d26223b52e42cbc395e628eb09a002c86e", func := "loop.example/g03103/laws.FnExactIsEmptyShift", spec := "fnExactIsEmptyShift", inPlace := ["internal/bytealg.IndexByteString", "internal/bytealg.IndexString"], unfollowed := true, recurses := true, named := ["internal/bytealg.MaxLen"], apart := false, narrowed := true }
def FnExactIsEmptyShiftUptoSaid : Prop := fnExactIsEmptyShiftUptoRow.holds Try.pinned (OpenSpec.upto fnExactIsEmptyShiftSpec)

/-- 'laws.FnExactInLanguage', WHERE WHAT IT READS IS OF BULK AT MOST 1048576: true; the input reads as it did. -/
def fnExactInLanguageUptoRow : OpenClaim := { program := "ytidfnhoeaofgeaa", sum := "8c0d99cca15fa702ac1f7c68f17bd6d26223b52e42cbc395e628eb09a002c86e", func := "loop.example/g03103/laws.FnExactInLanguage", spec := "fnExactInLanguage", inPlace := ["internal/bytealg.IndexByteString", "internal/bytealg.IndexString"], unfollowed := true, recurses := true, named := ["internal/bytealg.MaxLen"], apart := false, narrowed := true }
def FnExactInLanguageUptoSaid : Prop := fnExactInLanguageUptoRow.holds Try.pinned (OpenSpec.upto fnExactInLanguageSpec)

/-- 'laws.FnExactLanguageOf', WHERE WHAT IT READS IS OF BULK AT MOST 1048576: true; the input reads as it did. -/
def fnExactLanguageOfUptoRow : OpenClaim := { program := "ytidfnhoeaofgeaa", sum := "8c0d99cca15fa702ac1f7c68f17bd6d26223b52e42cbc395e628eb09a002c86e", func := "loop.example/g03103/laws.FnExactLanguageOf", spec := "fnExactLanguageOf", inPlace := ["internal/bytealg.IndexByteString", "internal/bytealg.IndexString"], unfollowed := true, recurses := true, named := ["internal/bytealg.MaxLen"], apart := false, narrowed := true }
def FnExactLanguageOfUptoSaid : Prop := fnExactLanguageOfUptoRow.holds Try.pinned (OpenSpec.upto fnExactLanguageOfSpec)

/-- 'laws.FnExactFactorsOf', WHERE WHAT IT READS IS OF BULK AT MOST 1048576: true; the input reads as it did. -/
def fnExactFactorsOfUptoRow : OpenClaim := { program := "ytidfnhoeaofgeaa", sum := "8c0d99cca15fa702ac1f7c68f17bd6d26223b52e42cbc395e628eb09a002c86e", func := "loop.example/g03103/laws.FnExactFactorsOf", spec := "fnExactFactorsOf", recurses := true, apart := false, narrowed := true }
def FnExactFactorsOfUptoSaid : Prop := fnExactFactorsOfUptoRow.holds Try.pinned (OpenSpec.upto fnExactFactorsOfSpec)

/-- 'laws.FnWords', WHERE WHAT IT READS IS OF BULK AT MOST 1048576: true; the input reads as it did. -/
def fnWordsUptoRow : OpenClaim := { program := "ytidfnhoeaofgeaa", sum := "8c0d99cca15fa702ac1f7c68f17bd6d26223b52e42cbc395e628eb09a002c86e", func := "loop.example/g03103/laws.FnWords", spec := "fnWords", inPlace := ["internal/abi.NoEscape", "internal/bytealg.MakeNoZero", "internal/bytealg.IndexByteString", "internal/bytealg.IndexString"], recurses := true, named := ["internal/bytealg.MaxLen"], apart := false, narrowed := true }
def FnWordsUptoSaid : Prop := fnWordsUptoRow.holds Try.pinned (OpenSpec.upto fnWordsSpec)

end Rows
end Go.Proofs.Ytidfnhoeaofgeaa
