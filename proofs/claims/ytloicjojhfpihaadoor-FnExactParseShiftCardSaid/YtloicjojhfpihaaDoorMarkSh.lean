/- Contracts of the laws' own helpers that mark a shift's words and look for the marks. No statement is proved here. -/
import Derived.Test.YtloicjojhfpihaaDoorMarkS
import Derived.Test.YtloicjojhfpihaaDoorShift
namespace Go.Proofs.YtloicjojhfpihaaDoor
open Go.RowKit Go.Deep
set_option maxRecDepth 10000 in
set_option maxHeartbeats 400000 in
theorem markShift (B : Nat) (c : Int) (v : Value) (l : List ByteArray) (k : Nat) (w : World) (h : Own 9 B w v (strs l)) (hn : l.length ≤ 2000000) (hk : k ≤ 2000000) :
    Calls Tryd.prog 8 #[.agg #[.int .i64 c, v], .int .i64 k] w fun e w' => e = .returned (.int .i64 ((k + l.length : Nat) : Int)) ∧ Own 9 B w' v (strs (smarks k l.length)) ∧ w.grownBy w' v.ownBlock := by
  have hb := below_alloc w (.cells #[.int .i64 c, v] 24)
  have ho := h.keep hb
  obtain ⟨a, cap, rfl⟩ := h.form rfl
  clear h
  go_enter Tryd.func8, Tryd.ntmps8
  go_wp2_with fail
  refine (markStringS B _ l k _ ho hn hk).mono ?_
  rintro e w2 ⟨rfl, om, hg⟩
  go_wp2
  go_ret
  exact ⟨rfl, om, growT (growB hb _) hg (.inl rfl)⟩
set_option maxRecDepth 10000 in
set_option maxHeartbeats 400000 in
theorem heldShift (c : Int) (v : Value) (n k : Nat) (w : World) (h : Strs w v (smarks k n)) (hn : n ≤ 2000000) (hk : k ≤ 2000000) :
    Calls Tryd.prog 9 #[.agg #[.int .i64 c, v], .int .i64 k] w fun e w' => e = .returned (.int .i64 ((k + n : Nat) : Int)) ∧ Below w.heap.size w w' := by
  have hb := below_alloc w (.cells #[.int .i64 c, v] 24)
  have ho := h.keep hb
  obtain ⟨a, m, cap, rfl, -⟩ := h.open
  clear h
  go_enter Tryd.func9, Tryd.ntmps9
  go_wp2_with fail
  refine (heldStringS _ n k _ ho hn hk).mono ?_
  rintro e w2 ⟨rfl, hb2⟩
  go_wp2
  go_ret
  exact ⟨rfl, belowN hb hb2⟩
theorem OwnSH.grown3 {te : TypeId} {B H : Nat} {w w' : World} {v u : Value} {l : List ByteArray} (h : OwnSH te B H w v l) (hg : w.grownBy w' u.ownBlock) (hu : ∀ k, u.ownBlock = some k → k < B) : OwnSH te B H w' v l := by
  refine ⟨h.1.grown hg ?_, h.2⟩
  cases e : v.ownBlock with
  | none => exact .inl rfl
  | some k =>
    refine .inr fun e2 => ?_
    have h1 := (h.1.lt k e).1
    have h2 := hu k e2.symm
    omega
end Go.Proofs.YtloicjojhfpihaaDoor
