/- Draws of words. No statement is proved here. -/
import Derived.Test.YtidfnhoeaofgeaaDrawC
import Derived.Test.YtidfnhoeaofgeaaRoot
namespace Go.Proofs.Ytidfnhoeaofgeaa
open Go.RowKit Go.Deep
def abc : List ByteArray := [⟨#[97]⟩, ⟨#[98]⟩, ⟨#[99]⟩]
def abcd : List ByteArray := [⟨#[97]⟩, ⟨#[98]⟩, ⟨#[99]⟩, ⟨#[100]⟩]
theorem abc_one {x : ByteArray} (h : x ∈ abc) : x.size = 1 := by
  simp only [abc, List.mem_cons, List.not_mem_nil, or_false] at h
  rcases h with rfl | rfl | rfl <;> rfl
theorem abcd_one {x : ByteArray} (h : x ∈ abcd) : x.size ≤ 4 := by
  simp only [abcd, List.mem_cons, List.not_mem_nil, or_false] at h
  rcases h with rfl | rfl | rfl | rfl <;> decide
set_option maxRecDepth 10000 in
set_option maxHeartbeats 400000 in
theorem l2Draw (w0 : World) (N n : Nat) (v : Value) (l : List UInt8) (w : World) (hv : BytesV w0 v l) (hl : l.length = n) (hC : Cur w0 N v n w) (k most : Nat) (hk1 : 1 ≤ k) (hk : k ≤ 3) (hm : most ≤ 20) :
    Calls Try.prog 82 #[.pointer (some ⟨N, 0, none⟩), .int .i64 k, .int .i64 most] w fun e w' => ∃ s : ByteArray, e = .returned (.string s) ∧ s.size ≤ most ∧ Cur w0 N v n w' ∧ w.grownBy w' (some N) := by
  go_enter Try.func82, Try.ntmps82
  go_wp2_with fail
  rw [show ((most : Int) + 1) = ((most + 1 : Nat) : Int) by omega]
  refine (l1Below w0 N n v l _ hv hl hC (most + 1) (by omega) (by omega)).mono ?_
  rintro e w1 ⟨c, rfl, hc, hC1, hg1⟩
  go_wp2
  go_loopw [7, 8] (fun q i wr => ∃ (j : Nat) (s : ByteArray) (z : Nat), i = .int .i64 j ∧ q = .string s ∧ s.size = z ∧ z + j ≤ most ∧ Cur w0 N v n wr ∧ w.grownBy wr (some N)) (fun _ i _ => (intOf i).toNat)
  case atStart => exact ⟨c, ⟨#[]⟩, 0, rfl, rfl, rfl, by omega, hC1, hg1⟩
  case round =>
    obtain ⟨j, s, z, rfl, rfl, hz, hzj, hCr, hgr⟩ := hrel
    by_cases hlt : 0 < j
    · have hP := Lib.hid (pickS w0 N n v l wr hv hl hCr abc 9 3 k rfl hk1 hk (by omega) 3)
      have hne := hCr.lt
      go_wp2_with fail
      refine hP.out.mono ?_
      rintro e w2 ⟨x, rfl, hx, hC2, hg2⟩
      have hx1 := abc_one hx
      have hsx : s.size + x.size ≤ 100 := by omega
      go_wp2
      go_roundw
      case rel => exact ⟨j - 1, _, z + 1, by go_num, rfl, by rw [ByteArray.size_append]; omega, by omega, hC2, hgr.trans hg2⟩
      case measure => simp [intOf]; omega
    · go_wp2
      go_ret
      exact ⟨_, rfl, by omega, hCr, hgr⟩
set_option maxRecDepth 10000 in
set_option maxHeartbeats 400000 in
theorem l2Bent (w0 : World) (N n : Nat) (v : Value) (l : List UInt8) (w : World) (hv : BytesV w0 v l) (hl : l.length = n) (hC : Cur w0 N v n w) :
    Calls Try.prog 76 #[.pointer (some ⟨N, 0, none⟩)] w fun e w' => ∃ s : ByteArray, e = .returned (.string s) ∧ s.size ≤ 16 ∧ Cur w0 N v n w' ∧ w.grownBy w' (some N) := by
  go_enter Try.func76, Try.ntmps76
  go_wp2_with fail
  refine (l1Once w0 N n v l _ hv hl hC 3 (by omega) (by omega)).mono ?_
  rintro e w1 ⟨o, rfl, hC1, hg1⟩
  cases ho : decide (o = 0)
  · go_wp2_with fail
    refine (l1Below w0 N n v l _ hv hl hC1 2 (by omega) (by omega)).mono ?_
    rintro e w2 ⟨c, rfl, hc, hC2, hg2⟩
    go_wp2_with fail
    rw [show (2 : Int) + (c : Int) = ((2 + c : Nat) : Int) by omega]
    refine (l2Draw w0 N n v l _ hv hl hC2 (2 + c) 9 (by omega) (by omega) (by omega)).mono ?_
    rintro e w3 ⟨s, rfl, hs, hC3, hg3⟩
    have hT := Lib.hid (l1Turned w0 N n v l w3 hv hl hC3 s s.size rfl (by omega) abcd 9 4 rfl (by omega) (by omega) (fun x hx => abcd_one hx))
    go_wp2_with fail
    refine hT.out.mono ?_
    rintro e w4 ⟨t, rfl, ht, hC4, hg4⟩
    go_wp2
    go_ret
    exact ⟨t, rfl, by omega, hC4, ((hg1.trans hg2).trans hg3).trans hg4⟩
  · go_wp2_with fail
    refine (l2Draw w0 N n v l _ hv hl hC1 2 4 (by omega) (by omega) (by omega)).mono ?_
    rintro e w2 ⟨s, rfl, hs, hC2, hg2⟩
    go_wp2_with fail
    refine (l1Below w0 N n v l _ hv hl hC2 3 (by omega) (by omega)).mono ?_
    rintro e w3 ⟨c, rfl, hc, hC3, hg3⟩
    have hz : (rep s (1 + c)).size ≤ 16 := by
      rw [rep_size]
      have := Nat.mul_le_mul (show 1 + c ≤ 3 by omega) hs
      omega
    go_wp2_with fail
    rw [show (1 : Int) + (c : Int) = ((1 + c : Nat) : Int) by omega]
    refine (sL2Times s (1 + c) _ (by omega) (by omega)).mono ?_
    rintro e w4 ⟨rfl, rfl⟩
    go_wp2
    go_ret
    exact ⟨_, rfl, hz, hC3, (hg1.trans hg2).trans hg3⟩
set_option maxRecDepth 10000 in
set_option maxHeartbeats 400000 in
theorem dRoot (v : Value) (l : List UInt8) (w : World) (hv : BytesV w v l) :
    Calls Try.prog 36 #[v] w fun e w' => ∃ s : ByteArray, e = .returned (.string s) ∧ s.size ≤ 16 ∧ Below w.heap.size w w' := by
  obtain ⟨a, cap, rfl, _, _⟩ := Row.open hv
  go_enter Try.func36, Try.ntmps36
  go_wp2_with fail
  refine (l1New _ l _ hv).mono ?_
  rintro e w1 ⟨N, rfl, hC, b1⟩
  go_wp2_with fail
  refine (l2Bent w N l.length _ l _ hv rfl hC).mono ?_
  rintro e w2 ⟨s, rfl, hs, hC2, _⟩
  have b2 := hC2.2.1
  go_wp2
  go_ret
  exact ⟨s, rfl, hs, b2⟩
set_option maxRecDepth 10000 in
set_option maxHeartbeats 400000 in
theorem dTurn (v : Value) (l : List UInt8) (w : World) (hv : BytesV w v l) :
    Calls Try.prog 37 #[v] w fun e w' => ∃ (s : ByteArray) (x : Int), e = .returned (.tuple #[.string s, .int .i64 x]) ∧ s.size ≤ 16 ∧ Below w.heap.size w w' := by
  obtain ⟨a, cap, rfl, _, _⟩ := Row.open hv
  go_enter Try.func37, Try.ntmps37
  go_wp2_with fail
  refine (l1New _ l _ hv).mono ?_
  rintro e w1 ⟨N, rfl, hC, b1⟩
  go_wp2_with fail
  refine (l2Bent w N l.length _ l _ hv rfl hC).mono ?_
  rintro e w2 ⟨s, rfl, hs, hC2, _⟩
  have hne := hC2.lt
  go_wp2_with fail
  refine (pickI w N l.length _ l _ hv rfl hC2 [0, 1, 2, 5, -1, -3, 17, 9223372036854775807, -9223372036854775808] 3 9 rfl (by omega) (by omega) 9).mono ?_
  rintro e w3 ⟨x, rfl, _, hC3, _⟩
  have b3 := hC3.2.1
  go_wp2
  go_ret2
  exact ⟨s, x, rfl, hs, b3⟩
set_option maxRecDepth 10000 in
set_option maxHeartbeats 400000 in
theorem dFactors (v : Value) (l : List UInt8) (w : World) (hv : BytesV w v l) :
    Calls Try.prog 39 #[v] w fun e w' => ∃ (s : ByteArray) (x : Int), e = .returned (.tuple #[.string s, .int .i64 x]) ∧ s.size ≤ 16 ∧ Below w.heap.size w w' := by
  obtain ⟨a, cap, rfl, _, _⟩ := Row.open hv
  go_enter Try.func39, Try.ntmps39
  go_wp2_with fail
  refine (l1New _ l _ hv).mono ?_
  rintro e w1 ⟨N, rfl, hC, b1⟩
  go_wp2_with fail
  refine (l2Bent w N l.length _ l _ hv rfl hC).mono ?_
  rintro e w2 ⟨s, rfl, hs, hC2, _⟩
  go_wp2_with fail
  refine (l1Below w N l.length _ l _ hv rfl hC2 6 (by omega) (by omega)).mono ?_
  rintro e w3 ⟨x, rfl, hx, hC3, _⟩
  go_wp2_with fail
  refine (l1Once w N l.length _ l _ hv rfl hC3 12 (by omega) (by omega)).mono ?_
  rintro e w4 ⟨o, rfl, hC4, _⟩
  have b4 := hC4.2.1
  go_wp2_with fail
  refine (l1Bit _ _).mono ?_
  rintro e w5 ⟨rfl, rfl⟩
  obtain ⟨z, hz, hz2⟩ : ∃ z : Int, (if decide (o = 0) = true then (1 : Int) else 0) = z ∧ 0 ≤ z ∧ z ≤ 1 := ⟨_, rfl, by split <;> omega, by split <;> omega⟩
  rw [hz]
  clear hz
  go_wp2
  go_ret2
  exact ⟨s, _, rfl, hs, b4⟩
set_option maxRecDepth 10000 in
set_option maxHeartbeats 400000 in
theorem dWords (v : Value) (l : List UInt8) (w : World) (hv : BytesV w v l) :
    Calls Try.prog 40 #[v] w fun e w' => ∃ (y x : Int), e = .returned (.tuple #[.int .i64 y, .int .i64 x]) ∧ Below w.heap.size w w' := by
  obtain ⟨a, cap, rfl, _, _⟩ := Row.open hv
  go_enter Try.func40, Try.ntmps40
  go_wp2_with fail
  refine (l1New _ l _ hv).mono ?_
  rintro e w1 ⟨N, rfl, hC, b1⟩
  go_wp2_with fail
  refine (l1Below w N l.length _ l _ hv rfl hC 5 (by omega) (by omega)).mono ?_
  rintro e w2 ⟨y, rfl, hy, hC2, _⟩
  go_wp2_with fail
  refine (l1Below w N l.length _ l _ hv rfl hC2 6 (by omega) (by omega)).mono ?_
  rintro e w3 ⟨x, rfl, hx, hC3, _⟩
  go_wp2_with fail
  refine (l1Once w N l.length _ l _ hv rfl hC3 12 (by omega) (by omega)).mono ?_
  rintro e w4 ⟨o, rfl, hC4, _⟩
  have b4 := hC4.2.1
  go_wp2_with fail
  refine (l1Bit _ _).mono ?_
  rintro e w5 ⟨rfl, rfl⟩
  obtain ⟨z, hz, hz2⟩ : ∃ z : Int, (if decide (o = 0) = true then (1 : Int) else 0) = z ∧ 0 ≤ z ∧ z ≤ 1 := ⟨_, rfl, by split <;> omega, by split <;> omega⟩
  rw [hz]
  clear hz
  go_wp2
  go_ret2
  exact ⟨_, _, rfl, b4⟩
set_option maxRecDepth 10000 in
set_option maxHeartbeats 400000 in
theorem dOccurs (v : Value) (l : List UInt8) (w : World) (hv : BytesV w v l) :
    Calls Try.prog 41 #[v] w fun e w' => ∃ (s t : ByteArray), e = .returned (.tuple #[.string s, .string t]) ∧ s.size ≤ 16 ∧ t.size ≤ 16 ∧ Below w.heap.size w w' := by
  obtain ⟨a, cap, rfl, _, _⟩ := Row.open hv
  go_enter Try.func41, Try.ntmps41
  go_wp2_with fail
  refine (l1New _ l _ hv).mono ?_
  rintro e w1 ⟨N, rfl, hC, b1⟩
  go_wp2_with fail
  refine (l2Bent w N l.length _ l _ hv rfl hC).mono ?_
  rintro e w2 ⟨s, rfl, hs, hC2, _⟩
  go_wp2_with fail
  refine (l2Draw w N l.length _ l _ hv rfl hC2 2 3 (by omega) (by omega) (by omega)).mono ?_
  rintro e w3 ⟨t, rfl, ht, hC3, _⟩
  have b3 := hC3.2.1
  go_wp2
  go_ret2
  exact ⟨s, t, rfl, hs, by omega, b3⟩
set_option maxRecDepth 10000 in
set_option maxHeartbeats 400000 in
theorem dIsWord (v : Value) (l : List UInt8) (w : World) (hv : BytesV w v l) :
    Calls Try.prog 42 #[v] w fun e w' => ∃ (x : Int) (s : ByteArray), e = .returned (.tuple #[.int .i64 x, .string s]) ∧ s.size ≤ 16 ∧ Below w.heap.size w w' := by
  obtain ⟨a, cap, rfl, _, _⟩ := Row.open hv
  go_enter Try.func42, Try.ntmps42
  go_wp2_with fail
  refine (l1New _ l _ hv).mono ?_
  rintro e w1 ⟨N, rfl, hC, b1⟩
  go_wp2_with fail
  refine (l1Below w N l.length _ l _ hv rfl hC 5 (by omega) (by omega)).mono ?_
  rintro e w2 ⟨x, rfl, hx, hC2, _⟩
  go_wp2_with fail
  refine (l2Bent w N l.length _ l _ hv rfl hC2).mono ?_
  rintro e w3 ⟨s, rfl, hs, hC3, _⟩
  have b3 := hC3.2.1
  go_wp2
  go_ret2
  exact ⟨_, s, rfl, hs, b3⟩
end Go.Proofs.Ytidfnhoeaofgeaa
