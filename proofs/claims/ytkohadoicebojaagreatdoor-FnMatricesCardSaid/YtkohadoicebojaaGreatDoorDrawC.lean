/- Draws that several laws share: a pick out of a literal, once, a bit, a turned text. No statement is proved here. -/
import Derived.Test.YtkohadoicebojaaGreatDoorDraw
import Derived.Deep.RegionLaw
namespace Go.Proofs.YtkohadoicebojaaGreatDoor
open Go.RowKit Go.Deep
theorem lit_cell (w : World) (L : List Value) (e : TypeId) {j : Nat} {x : Value} (h : L[j]? = some x) : (w.alloc (.cells L.toArray e)).cell? ⟨w.heap.size, j, none⟩ = some x := by
  obtain ⟨hj, hx⟩ := List.getElem?_eq_some_iff.1 h
  have hr := World.rowIs_alloc w L.toArray e (fun i => L.getD i x) (fun i hi => by
    have hi' : i < L.length := by simpa using hi
    simp [List.getD, List.getElem?_eq_getElem hi'])
  have hc := hr.cell (i := j) (by simpa using hj)
  rw [hc]
  simp [List.getD, h]
theorem growN {B N : Nat} {w w' : World} (h : w.grownBy w' (some N)) (hN : B ≤ N) (hB : B ≤ w.heap.size) : Below B w w' :=
  ⟨h.os, h.tape, h.output, h.size, fun k hk => h.block k (by omega) (fun e => by have := Option.some.inj e; omega)⟩
theorem growA (w : World) (o : Obj) (b : Option Nat) : w.grownBy (w.alloc o) b := have h := below_alloc w o; ⟨h.os, h.tape, h.output, h.size, fun k hk _ => h.block k hk⟩
theorem Cur.lt {w0 w : World} {N n : Nat} {v : Value} (h : Cur w0 N v n w) : N < w.heap.size := by
  obtain ⟨_, _, i, k, _, hr⟩ := h
  exact hr.lt
theorem pickS (w0 : World) (N n : Nat) (v : Value) (l : List UInt8) (w : World) (hv : BytesV w0 v l) (hl : l.length = n) (hC : Cur w0 N v n w) (L : List ByteArray) (te : TypeId) (m k : Nat) (hL : L.length = m) (hk : 1 ≤ k) (hkm : k ≤ m) (hm2 : m ≤ 1000) (cap : Nat) :
    Calls Tryz.prog 103 #[.pointer (some ⟨N, 0, none⟩), .slice (some ⟨w.heap.size, 0, none⟩) k cap] (w.alloc (.cells (strs L).toArray te)) fun e w' => ∃ x, e = .returned (.string x) ∧ x ∈ L ∧ Cur w0 N v n w' ∧ w.grownBy w' (some N) := by
  have hlt := hC.lt
  refine (l1Pick w0 N n v l _ hv hl (hC.keep (below_alloc _ _)) w.heap.size (by omega) (L.take k) k (by rw [List.length_take]; omega) hk (by omega) (fun j x hj => lit_cell w (strs L) te ?_) cap).mono ?_
  · have h1 : L[j]? = some x := by
      rw [List.getElem?_take] at hj
      split at hj
      · exact hj
      · cases hj
    rw [strs_get?, h1]; rfl
  · rintro e w' ⟨x, rfl, hx, hC', hg⟩
    exact ⟨x, rfl, List.mem_of_mem_take hx, hC', (growA w _ _).trans hg⟩
theorem pickI (w0 : World) (N n : Nat) (v : Value) (l : List UInt8) (w : World) (hv : BytesV w0 v l) (hl : l.length = n) (hC : Cur w0 N v n w) (L : List Int) (te : TypeId) (m : Nat) (hL : L.length = m) (hk : 1 ≤ m) (hm2 : m ≤ 1000) (cap : Nat) :
    Calls Tryz.prog 57 #[.pointer (some ⟨N, 0, none⟩), .slice (some ⟨w.heap.size, 0, none⟩) m cap] (w.alloc (.cells (ints L).toArray te)) fun e w' => ∃ x, e = .returned (.int .i64 x) ∧ x ∈ L ∧ Cur w0 N v n w' ∧ w.grownBy w' (some N) := by
  have hlt := hC.lt
  refine (l1PickInt w0 N n v l _ hv hl (hC.keep (below_alloc _ _)) w.heap.size (by omega) L m hL hk hm2 (fun j x hj => lit_cell w (ints L) te ?_) cap).mono ?_
  · rw [ints_get?, hj]; rfl
  · rintro e w' ⟨x, rfl, hx, hC', hg⟩
    exact ⟨x, rfl, hx, hC', (growA w _ _).trans hg⟩
set_option maxRecDepth 10000 in
set_option maxHeartbeats 400000 in
theorem l1Once (w0 : World) (N n : Nat) (v : Value) (l : List UInt8) (w : World) (hv : BytesV w0 v l) (hl : l.length = n) (hC : Cur w0 N v n w) (m : Nat) (hm : 1 ≤ m) (hm2 : m ≤ 4000000000) :
    Calls Tryz.prog 83 #[.pointer (some ⟨N, 0, none⟩), .int .i64 m] w fun e w' => ∃ x : Nat, e = .returned (.bool (decide (x = 0))) ∧ Cur w0 N v n w' ∧ w.grownBy w' (some N) := by
  go_enter Tryz.func83, Tryz.ntmps83
  go_wp2_with fail
  refine (l1Below w0 N n v l _ hv hl hC m hm hm2).mono ?_
  rintro e w1 ⟨x, rfl, hx, hC1, hg1⟩
  by_cases h : x = 0
  · subst h
    rw [show ((0 : Nat) : Int) = 0 from rfl]
    go_wp2
    go_ret
    exact ⟨0, rfl, hC1, hg1⟩
  · have h1 : ((x : Int) == 0) = false := beq_eq_false_iff_ne.2 (by omega)
    go_wp2
    go_ret
    exact ⟨x, ret_bool (decide_eq_false h).symm, hC1, hg1⟩
set_option maxRecDepth 10000 in
set_option maxHeartbeats 400000 in
theorem l1Turned (w0 : World) (N n : Nat) (v : Value) (l : List UInt8) (w : World) (hv : BytesV w0 v l) (hl : l.length = n) (hC : Cur w0 N v n w) (s : ByteArray) (z : Nat) (hz : s.size = z) (hs : z ≤ 100000) (L : List ByteArray) (te : TypeId) (m : Nat) (hL : L.length = m) (hm : 1 ≤ m) (hm2 : m ≤ 1000) (hx : ∀ x ∈ L, x.size ≤ 4) :
    Calls Tryz.prog 61 #[.pointer (some ⟨N, 0, none⟩), .string s, .slice (some ⟨w.heap.size, 0, none⟩) m m] (w.alloc (.cells (strs L).toArray te)) fun e w' => ∃ t : ByteArray, e = .returned (.string t) ∧ t.size ≤ z + 4 ∧ Cur w0 N v n w' ∧ w.grownBy w' (some N) := by
  have hlt := hC.lt
  have HX := Lib.hid hx; clear hx
  have HC : Hid (∀ j x, L[j]? = some x → (w.alloc (.cells (strs L).toArray te)).cell? ⟨w.heap.size, j, none⟩ = some (.string x)) := Lib.hid fun j x hj => lit_cell w (strs L) te (by rw [strs_get?, hj]; rfl)
  have hC1 := hC.keep (below_alloc w (.cells (strs L).toArray te))
  have hg0 := growA w (.cells (strs L).toArray te) (some N)
  obtain ⟨u, hu⟩ : ∃ u, w.heap.size = u := ⟨_, rfl⟩
  rw [hu] at HC hlt ⊢
  obtain ⟨w1, hw1⟩ : ∃ w1, w.alloc (.cells (strs L).toArray te) = w1 := ⟨_, rfl⟩
  rw [hw1] at HC hC1 hg0 ⊢
  clear hC hu hw1
  go_enter Tryz.func61, Tryz.ntmps61
  go_wp2_with fail
  rw [show ((z : Int) + 1) = ((z + 1 : Nat) : Int) by omega]
  refine (l1Below w0 N n v l _ hv hl hC1 (z + 1) (by omega) (by omega)).mono ?_
  rintro e w2 ⟨k, rfl, hk, hC2, hg2⟩
  go_wp2_with fail
  refine (l1Below w0 N n v l _ hv hl hC2 6 (by omega) (by omega)).mono ?_
  rintro e w3 ⟨d, rfl, hd, hC3, hg3⟩
  have hg := (hg0.trans hg2).trans hg3
  have hbd : Below w3.heap.size w3 w3.drew := (Below.refl _ _).drew
  have hCd := hC3.keep hbd
  have hgd : w.grownBy w3.drew (some N) := hg.trans (grow_drew w3 1 _)
  have hzd : w3.drew.heap.size = w3.heap.size := rfl
  have hkz : k ≤ z := by omega
  have hcell : ∀ j x, L[j]? = some x → w3.drew.cell? ⟨u, j, none⟩ = some (.string x) := fun j x hj => by
    have h1 := HC.out j x hj
    have h2 := hg2.cell h1 (fun e => by have h9 : u = N := Option.some.inj e; omega)
    have h3 := hg3.cell h2 (fun e => by have h9 : u = N := Option.some.inj e; omega)
    exact cell_keep hbd h3
  have key := Lib.hid (l1Pick w0 N n v l w3.drew hv hl hCd u (by omega) L m hL hm hm2 hcell m)
  have e1 : (s.extract 0 k).size = k := by rw [ByteArray.size_extract, hz]; omega
  have e2 : (s.extract k z).size = z - k := by rw [ByteArray.size_extract, hz]; omega
  obtain ⟨A, hA⟩ : ∃ A, s.extract 0 k = A := ⟨_, rfl⟩
  obtain ⟨B, hB⟩ : ∃ B, s.extract k z = B := ⟨_, rfl⟩
  rw [hA] at e1
  rw [hB] at e2
  clear hcell hbd hC1 hC2 hg2 hg3 hg0 HC hd
  have HS : Hid (∀ x ∈ L, (Op.stringOp .add A x).run Tryz.prog = (fun w => .ok (.string (A ++ x)) w) ∧ (Op.stringOp .add (A ++ x) B).run Tryz.prog = (fun w => .ok (.string (A ++ x ++ B)) w)) := Lib.hid fun x hx => by
    have := HX.out x hx
    refine ⟨?_, ?_⟩
    · funext w; rw [run_string_add_if, if_neg (by omega)]
    · funext w; rw [run_string_add_if, if_neg (by rw [ByteArray.size_append]; omega)]
  by_cases d0 : d = 0
  · subst d0
    rw [show ((0 : Nat) : Int) = 0 from rfl]
    go_wp2
    go_region_law (go_simp; go_at_call 103; refine key.out.mono ?_; rintro e w4 ⟨x, rfl, hx4, hC4, hg4⟩; have hx5 := HX.out x hx4; have hr1 := HS.out x hx4; have hr2 := hr1.1; have hr3 := hr1.2)
    all_goals
      go_wp2
      go_ret
      exact ⟨_, rfl, by simp only [ByteArray.size_append]; omega, hC4, hgd.trans hg4⟩
  · have d1 : ((d : Int) == 0) = false := beq_eq_false_iff_ne.2 (by omega)
    clear key hCd hgd hzd
    by_cases d2 : d = 1
    · subst d2
      rw [show ((1 : Nat) : Int) = 1 from rfl]
      go_wp2
      go_ret
      exact ⟨_, rfl, by omega, hC3, hg⟩
    · have d3 : ((d : Int) == 1) = false := beq_eq_false_iff_ne.2 (by omega)
      go_wp2
      go_ret
      exact ⟨_, rfl, by omega, hC3, hg⟩
end Go.Proofs.YtkohadoicebojaaGreatDoor
