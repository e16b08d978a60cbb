/- Draws that several laws share: a pick out of a literal, once, a bit, a turned text. No statement is proved here. -/
import Derived.Test.YtenjakgahniijaaDraw
import Derived.Deep.RegionLaw
namespace Go.Proofs.Ytenjakgahniijaa
open Go.RowKit Go.Deep
theorem lit_cell (w : World) (L : List Value) (e : TypeId) {j : Nat} {x : Value} (h : L[j]? = some x) : (w.alloc (.cells L.toArray e)).cell? ⟨w.heap.size, j, none⟩ = some x := by
  obtain ⟨hj, hx⟩ := List.getElem?_eq_some_iff.1 h
  have hr := World.rowIs_alloc w L.toArray e (fun i => L.getD i x) (fun i hi => by
    have hi' : i < L.length := by simpa using hi
    simp [List.getD, List.getElem?_eq_getElem hi'])
  have hc := hr.cell (i := j) (by simpa using hj)
  rw [hc]
  simp [List.getD, h]
theorem growN {B N : Nat} {w w' : World} (h : w.grownBy w' (some N)) (hN : B ≤ N) (hB : B ≤ w.heap.size) : Below B w w' :=
  ⟨h.os, h.tape, h.output, h.size, fun k hk => h.block k (by omega) (fun e => by have := Option.some.inj e; omega)⟩
theorem growA (w : World) (o : Obj) (b : Option Nat) : w.grownBy (w.alloc o) b := have h := below_alloc w o; ⟨h.os, h.tape, h.output, h.size, fun k hk _ => h.block k hk⟩
theorem Cur.lt {w0 w : World} {N n : Nat} {v : Value} (h : Cur w0 N v n w) : N < w.heap.size := by
  obtain ⟨_, _, i, k, _, hr⟩ := h
  exact hr.lt
theorem pickS (w0 : World) (N n : Nat) (v : Value) (l : List UInt8) (w : World) (hv : BytesV w0 v l) (hl : l.length = n) (hC : Cur w0 N v n w) (L : List ByteArray) (te : TypeId) (m k : Nat) (hL : L.length = m) (hk : 1 ≤ k) (hkm : k ≤ m) (hm2 : m ≤ 1000) (cap : Nat) :
    Calls Try.prog 91 #[.pointer (some ⟨N, 0, none⟩), .slice (some ⟨w.heap.size, 0, none⟩) k cap] (w.alloc (.cells (strs L).toArray te)) fun e w' => ∃ x, e = .returned (.string x) ∧ x ∈ L ∧ Cur w0 N v n w' ∧ w.grownBy w' (some N) := by
  have hlt := hC.lt
  refine (l1Pick w0 N n v l _ hv hl (hC.keep (below_alloc _ _)) w.heap.size (by omega) (L.take k) k (by rw [List.length_take]; omega) hk (by omega) (fun j x hj => lit_cell w (strs L) te ?_) cap).mono ?_
  · have h1 : L[j]? = some x := by
      rw [List.getElem?_take] at hj
      split at hj
      · exact hj
      · cases hj
    rw [strs_get?, h1]; rfl
  · rintro e w' ⟨x, rfl, hx, hC', hg⟩
    exact ⟨x, rfl, List.mem_of_mem_take hx, hC', (growA w _ _).trans hg⟩
theorem pickI (w0 : World) (N n : Nat) (v : Value) (l : List UInt8) (w : World) (hv : BytesV w0 v l) (hl : l.length = n) (hC : Cur w0 N v n w) (L : List Int) (te : TypeId) (m : Nat) (hL : L.length = m) (hk : 1 ≤ m) (hm2 : m ≤ 1000) (cap : Nat) :
    Calls Try.prog 48 #[.pointer (some ⟨N, 0, none⟩), .slice (some ⟨w.heap.size, 0, none⟩) m cap] (w.alloc (.cells (ints L).toArray te)) fun e w' => ∃ x, e = .returned (.int .i64 x) ∧ x ∈ L ∧ Cur w0 N v n w' ∧ w.grownBy w' (some N) := by
  have hlt := hC.lt
  refine (l1PickInt w0 N n v l _ hv hl (hC.keep (below_alloc _ _)) w.heap.size (by omega) L m hL hk hm2 (fun j x hj => lit_cell w (ints L) te ?_) cap).mono ?_
  · rw [ints_get?, hj]; rfl
  · rintro e w' ⟨x, rfl, hx, hC', hg⟩
    exact ⟨x, rfl, hx, hC', (growA w _ _).trans hg⟩
set_option maxRecDepth 10000 in
set_option maxHeartbeats 400000 in
theorem l1Once (w0 : World) (N n : Nat) (v : Value) (l : List UInt8) (w : World) (hv : BytesV w0 v l) (hl : l.length = n) (hC : Cur w0 N v n w) (m : Nat) (hm : 1 ≤ m) (hm2 : m ≤ 4000000000) :
    Calls Try.prog 51 #[.pointer (some ⟨N, 0, none⟩), .int .i64 m] w fun e w' => ∃ x : Nat, e = .returned (.bool (decide (x = 0))) ∧ Cur w0 N v n w' ∧ w.grownBy w' (some N) := by
  go_enter Try.func51, Try.ntmps51
  go_wp2_with fail
  refine (l1Below w0 N n v l _ hv hl hC m hm hm2).mono ?_
  rintro e w1 ⟨x, rfl, hx, hC1, hg1⟩
  by_cases h : x = 0
  · subst h
    rw [show ((0 : Nat) : Int) = 0 from rfl]
    go_wp2
    go_ret
    exact ⟨0, rfl, hC1, hg1⟩
  · have h1 : ((x : Int) == 0) = false := beq_eq_false_iff_ne.2 (by omega)
    go_wp2
    go_ret
    exact ⟨x, ret_bool (decide_eq_false h).symm, hC1, hg1⟩
set_option maxRecDepth 10000 in
set_option maxHeartbeats 400000 in
theorem dBit (b : Bool) (w : World) : Calls Try.prog 87 #[.bool b] w fun e w' => e = .returned (.int .i64 (if b then 1 else 0)) ∧ w = w' := by
  cases b
  · go_enter Try.func87, Try.ntmps87
    go_wp2
    go_ret
    exact ⟨rfl, rfl⟩
  · go_enter Try.func87, Try.ntmps87
    go_wp2
    go_ret
    exact ⟨rfl, rfl⟩
end Go.Proofs.Ytenjakgahniijaa
