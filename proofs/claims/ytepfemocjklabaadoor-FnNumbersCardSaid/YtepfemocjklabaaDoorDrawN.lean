/- What FnNumbers draws, and plain facts on digits. No statement is proved here. -/
import Derived.Test.YtepfemocjklabaaDoorDraw
import Derived.Test.YtepfemocjklabaaDoorReadS
namespace Go.Proofs.YtepfemocjklabaaDoor
open Go.RowKit Go.Deep
theorem lit_cell (w : World) (L : List Value) (e : TypeId) {j : Nat} {x : Value} (h : L[j]? = some x) : (w.alloc (.cells L.toArray e)).cell? ⟨w.heap.size, j, none⟩ = some x := by
  obtain ⟨hj, hx⟩ := List.getElem?_eq_some_iff.1 h
  have hr := World.rowIs_alloc w L.toArray e (fun i => L.getD i x) (fun i hi => by
    have hi' : i < L.length := by simpa using hi
    simp [List.getD, List.getElem?_eq_getElem hi'])
  have hc := hr.cell (i := j) (by simpa using hj)
  rw [hc]
  simp [List.getD, h]
theorem Cur.lt {w0 w : World} {N n : Nat} {v : Value} (h : Cur w0 N v n w) : N < w.heap.size := by
  obtain ⟨_, _, i, k, _, hr⟩ := h
  exact hr.lt
theorem dig_low (u : Nat) : u < 10 ^ (dig u).length := by
  induction u using Nat.strongRecOn with
  | _ u ih =>
    by_cases h : u = 0
    · subst h; exact Nat.one_pos
    · rw [dig_step h, List.length_append, List.length_singleton, Nat.pow_succ]
      have := ih (u / 10) (by omega)
      omega
theorem size_in_pos {n : Int} (h0 : 0 ≤ n) (h : n ≤ 999999999999) : (fmtI n).size ≤ 12 := by
  unfold fmtI Lib.itoa
  rw [if_neg (by omega), str_size]
  exact dec_len (by omega) (by omega)
theorem size_in_neg {n : Int} (h0 : n < 0) (h : -999999999999 ≤ n) : (fmtI n).size ≤ 13 := by
  unfold fmtI Lib.itoa
  rw [if_pos h0, str_size, List.length_cons]
  have := dec_len (k := 12) (u := n.natAbs) (by omega) (by omega)
  omega
theorem dig_long {u : Nat} (h : 1000000000000 ≤ u) : 13 ≤ (dig u).length := by
  rcases Nat.lt_or_ge 12 (dig u).length with h2 | h2
  · exact h2
  · have h3 := dig_low u
    have h4 : 10 ^ (dig u).length ≤ 10 ^ 12 := Nat.pow_le_pow_right (by omega) h2
    omega
theorem size_out_pos {n : Int} (h : 999999999999 < n) : 13 ≤ (fmtI n).size := by
  rw [fmtI_pos (by omega), str_size]
  exact dig_long (by omega)
theorem size_out_neg {n : Int} (h : n < -999999999999) : 14 ≤ (fmtI n).size := by
  rw [fmtI_neg (by omega), ByteArray.size_append, str_size]
  have := dig_long (u := n.natAbs) (by omega)
  show 14 ≤ 1 + _
  omega
set_option maxRecDepth 10000 in
set_option maxHeartbeats 400000 in
theorem l1Whole (w0 : World) (N n : Nat) (v : Value) (l : List UInt8) (w : World) (hv : BytesV w0 v l) (hl : l.length = n) (hC : Cur w0 N v n w) :
    Calls Tryd.prog 19 #[.pointer (some ⟨N, 0, none⟩)] w fun e w' => ∃ x : Int, e = .returned (.int .i64 x) ∧ (-9223372036854775808 ≤ x ∧ x ≤ 9223372036854775807) ∧ Cur w0 N v n w' := by
  go_enter Tryd.func19, Tryd.ntmps19
  go_wp2_with fail
  refine (l1Below w0 N n v l _ hv hl hC 3 (by omega) (by omega)).mono ?_
  rintro e w1 ⟨x, rfl, hx, hC1, hg1⟩
  have hx' : x = 0 ∨ x = 1 ∨ x = 2 := by omega
  have hlt := hC1.lt
  clear hg1 hx
  rcases hx' with rfl | rfl | rfl
  · rw [show ((0 : Nat) : Int) = 0 from rfl]
    go_wp2_with fail
    refine (l1PickInt w0 N n v l _ hv hl (hC1.keep (below_alloc _ _)) w1.heap.size (by omega) [0, 1, -1, 9, 10, 999999, 1000000, 999999999999, 1000000000000, -999999999999, 9223372036854775807, -9223372036854775808] 12 rfl (by omega) (by omega) (fun j x hj => lit_cell w1 (ints [0, 1, -1, 9, 10, 999999, 1000000, 999999999999, 1000000000000, -999999999999, 9223372036854775807, -9223372036854775808]) 3 (by rw [ints_get?, hj]; rfl)) 12).mono ?_
    rintro e w2 ⟨y, rfl, hy, hC2, _⟩
    have hyb : -9223372036854775808 ≤ y ∧ y ≤ 9223372036854775807 := by
      simp only [List.mem_cons, List.not_mem_nil, or_false] at hy
      omega
    clear hy
    go_wp2
    go_ret
    exact ⟨y, rfl, hyb, hC2⟩
  · rw [show ((1 : Nat) : Int) = 1 from rfl]
    go_wp2_with fail
    refine (l1Below w0 N n v l _ hv hl hC1 1000000 (by omega) (by omega)).mono ?_
    rintro e w2 ⟨y, rfl, hy, hC2, _⟩
    go_wp2
    go_ret
    exact ⟨_, rfl, ⟨by omega, by omega⟩, hC2⟩
  · rw [show ((2 : Nat) : Int) = 2 from rfl]
    go_wp2_with fail
    refine (l1Below w0 N n v l _ hv hl hC1 20 (by omega) (by omega)).mono ?_
    rintro e w2 ⟨y, rfl, hy, hC2, _⟩
    go_wp2
    go_ret
    exact ⟨_, rfl, ⟨by omega, by omega⟩, hC2⟩
set_option maxRecDepth 10000 in
set_option maxHeartbeats 400000 in
theorem l1Once (w0 : World) (N n : Nat) (v : Value) (l : List UInt8) (w : World) (hv : BytesV w0 v l) (hl : l.length = n) (hC : Cur w0 N v n w) (m : Nat) (hm : 1 ≤ m) (hm2 : m ≤ 4000000000) :
    Calls Tryd.prog 21 #[.pointer (some ⟨N, 0, none⟩), .int .i64 m] w fun e w' => ∃ x : Nat, e = .returned (.bool (decide (x = 0))) ∧ Cur w0 N v n w' := by
  go_enter Tryd.func21, Tryd.ntmps21
  go_wp2_with fail
  refine (l1Below w0 N n v l _ hv hl hC m hm hm2).mono ?_
  rintro e w1 ⟨x, rfl, hx, hC1, hg1⟩
  by_cases h : x = 0
  · subst h
    rw [show ((0 : Nat) : Int) = 0 from rfl]
    go_wp2
    go_ret
    exact ⟨0, rfl, hC1⟩
  · have h1 : ((x : Int) == 0) = false := beq_eq_false_iff_ne.2 (by omega)
    go_wp2
    go_ret
    exact ⟨x, ret_bool (decide_eq_false h).symm, hC1⟩
set_option maxRecDepth 10000 in
set_option maxHeartbeats 400000 in
theorem dFormat (v : Value) (l : List UInt8) (w : World) (hv : BytesV w v l) :
    Calls Tryd.prog 14 #[v] w fun e w' => ∃ x : Int, e = .returned (.int .i64 x) ∧ (-9223372036854775808 ≤ x ∧ x ≤ 9223372036854775807) ∧ Below w.heap.size w w' := by
  obtain ⟨a, cap, rfl, _, _⟩ := Row.open hv
  go_enter Tryd.func14, Tryd.ntmps14
  go_wp2_with fail
  refine (l1New _ l _ hv).mono ?_
  rintro e w1 ⟨N, rfl, hC, b1⟩
  go_wp2_with fail
  refine (l1Whole w N l.length _ l _ hv rfl hC).mono ?_
  rintro e w2 ⟨x, rfl, hx, hC2⟩
  have b2 := hC2.2.1
  go_wp2
  go_ret
  exact ⟨x, rfl, hx, b2⟩
set_option maxRecDepth 10000 in
set_option maxHeartbeats 400000 in
theorem dNumber (v : Value) (l : List UInt8) (w : World) (hv : BytesV w v l) :
    Calls Tryd.prog 15 #[v] w fun e w' => ∃ t : ByteArray, e = .returned (.string t) ∧ t.size ≤ 100 ∧ Below w.heap.size w w' := by
  obtain ⟨a, cap, rfl, _, _⟩ := Row.open hv
  go_enter Tryd.func15, Tryd.ntmps15
  go_wp2_with fail
  refine (l1New _ l _ hv).mono ?_
  rintro e w1 ⟨N, rfl, hC, b1⟩
  go_wp2_with fail
  refine (l1Once w N l.length _ l _ hv rfl hC 2 (by omega) (by omega)).mono ?_
  rintro e w2 ⟨o, rfl, hC2⟩
  have hlt := hC2.lt
  cases ho : decide (o = 0)
  · go_wp2_with fail
    refine (l1Pick w N l.length _ l _ hv rfl (hC2.keep (below_alloc _ _)) w2.heap.size (by omega) [⟨#[]⟩, ⟨#[48, 48]⟩, ⟨#[48, 49]⟩, ⟨#[45, 49]⟩, ⟨#[43, 49]⟩, ⟨#[120]⟩, ⟨#[57, 57, 57, 57, 57, 57]⟩, ⟨#[49, 48, 48, 48, 48, 48, 48]⟩, ⟨#[45, 48]⟩, ⟨#[45]⟩, ⟨#[32, 49]⟩, ⟨#[49, 32]⟩] 12 rfl (by omega) (by omega) (fun j x hj => lit_cell w2 (strs [⟨#[]⟩, ⟨#[48, 48]⟩, ⟨#[48, 49]⟩, ⟨#[45, 49]⟩, ⟨#[43, 49]⟩, ⟨#[120]⟩, ⟨#[57, 57, 57, 57, 57, 57]⟩, ⟨#[49, 48, 48, 48, 48, 48, 48]⟩, ⟨#[45, 48]⟩, ⟨#[45]⟩, ⟨#[32, 49]⟩, ⟨#[49, 32]⟩]) 9 (by rw [strs_get?, hj]; rfl)) 12).mono ?_
    rintro e w3 ⟨s, rfl, hs, hC3, _⟩
    have hs10 : s.size ≤ 100 := by
      simp only [List.mem_cons, List.not_mem_nil, or_false] at hs
      rcases hs with rfl | rfl | rfl | rfl | rfl | rfl | rfl | rfl | rfl | rfl | rfl | rfl <;> decide
    have b3 := hC3.2.1
    clear hs
    go_wp2
    go_ret
    exact ⟨s, rfl, hs10, b3⟩
  · go_wp2_with fail
    refine (l1Whole w N l.length _ l _ hv rfl hC2).mono ?_
    rintro e w3 ⟨x, rfl, hx, hC3⟩
    have b3 := hC3.2.1
    have hF := Lib.hid (sFormatInt x w3 hx.1 hx.2)
    have hsz : (fmtI x).size ≤ 100 := by have := fmtI_small hx.1 hx.2; omega
    go_wp2_with fail
    refine hF.out.mono ?_
    rintro e w4 ⟨rfl, hb4⟩
    have b4 := b3.trans (hb4.mono b3.size)
    go_wp2
    go_ret
    exact ⟨_, rfl, hsz, b4⟩
end Go.Proofs.YtepfemocjklabaaDoor
