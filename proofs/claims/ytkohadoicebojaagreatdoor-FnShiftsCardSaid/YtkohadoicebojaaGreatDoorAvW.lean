/- AvoidingWords, the program's and the reference's. No statement is proved here. -/
import Derived.Test.YtkohadoicebojaaGreatDoorFilt
namespace Go.Proofs.YtkohadoicebojaaGreatDoor
open Go.RowKit Go.Deep
def langB (k n : Int) (f : List ByteArray) : Bool := isShift k f && inR n 0 6
def avoL (k : Int) (f : List ByteArray) (n : Int) : List ByteArray := if langB k n f = true then (words k.toNat n.toNat).filter (avo f) else []
theorem langB_1 {k n : Int} {f : List ByteArray} (h : isShift k f = false) : langB k n f = false := by unfold langB; rw [h, Bool.false_and]
theorem langB_2 {k n : Int} {f : List ByteArray} (h : inR n 0 6 = false) : langB k n f = false := by unfold langB; rw [h, Bool.and_false]
theorem langB_3 {k n : Int} {f : List ByteArray} (h : isShift k f = true) (h2 : inR n 0 6 = true) : langB k n f = true := by unfold langB; rw [h, h2]; rfl
theorem isShift_letters {k : Int} {f : List ByteArray} (h : isShift k f = true) : 1 ≤ k ∧ k ≤ 3 := by
  unfold isShift at h
  rw [Bool.and_eq_true] at h
  exact inR_iff.1 h.1
theorem avoL_no {k n : Int} {f : List ByteArray} (h : langB k n f = false) : avoL k f n = [] := if_neg (by rw [h]; decide)
theorem avoL_yes {k n : Nat} {f : List ByteArray} (h : langB k n f = true) : avoL k f n = (words k n).filter (avo f) := by unfold avoL; rw [if_pos h, Int.toNat_natCast, Int.toNat_natCast]
theorem avoL_len (k : Int) (f : List ByteArray) (n : Int) : (avoL k f n).length ≤ 1000 := by
  cases h : langB k n f
  · rw [avoL_no h]; simp
  · have h' := h
    unfold langB at h'
    rw [Bool.and_eq_true] at h'
    have h1 := isShift_letters h'.1
    have h2 := inR_iff.1 h'.2
    unfold avoL
    rw [if_pos h]
    have h3 := List.length_filter_le (avo f) (words k.toNat n.toNat)
    have h4 := words_small (k := k.toNat) (n := n.toNat) (by omega) (by omega)
    omega
set_option maxRecDepth 10000 in
set_option maxHeartbeats 400000 in
theorem sAvoidingWords (k : Int) (v : Value) (l : List ByteArray) (n : Int) (w : World) (h : Strs w v l) (hz : ∀ x ∈ l, x.size ≤ 1048576) :
    Calls Tryz.prog 38 #[.agg #[.int .i64 k, v], .int .i64 n] w fun e w' => ∃ v', e = .returned v' ∧ OwnS 9 w.heap.size w' v' (avoL k l n) ∧ Below w.heap.size w w' := by
  have hb := below_alloc w (.cells #[.int .i64 k, v] 41)
  have c0 : (w.alloc (.cells #[.int .i64 k, v] 41)).cell? ⟨w.heap.size, 0, none⟩ = some (.int .i64 k) := by simp
  have c1 : (w.alloc (.cells #[.int .i64 k, v] 41)).cell? ⟨w.heap.size, 1, none⟩ = some v := by simp
  obtain ⟨a, m, cap, rfl, -⟩ := h.open
  go_enter Tryz.func38, Tryz.ntmps38
  go_wp2_with fail
  refine (sIsShift k _ l _ (h.keep hb) hz).mono ?_
  rintro e w1 ⟨rfl, hb1⟩
  have d0 := cell_keep hb1 c0
  have d1 := cell_keep hb1 c1
  have b1 := hb.trans (hb1.mono (by simp))
  have he := Own.empty 9 w1
  have hea := below_alloc w1 (.cells #[] 9)
  have h1 := h.keep b1
  have hs1 := b1.size
  clear c0 c1 hb hb1 h
  cases hS : isShift k l
  · have HO := Lib.hid (avoL_no (langB_1 (n := n) hS)); clear hS
    go_wp2
    go_ret
    exact ⟨_, rfl, by rw [HO.out]; exact he.mono hs1, b1.trans (hea.mono hs1)⟩
  cases hN : inR n 0 6
  · have HO := Lib.hid (avoL_no (f := l) (langB_2 (k := k) hN))
    have HN := Lib.hid hN; clear hS hN
    go_wp2_with (go_at_call 59; refine (wIn' _ _ _ _).mono ?_; rintro e w2 ⟨rfl, rfl⟩; rw [HN.out])
    go_ret
    exact ⟨_, rfl, by rw [HO.out]; exact he.mono hs1, b1.trans (hea.mono hs1)⟩
  · have hk := isShift_letters hS
    have hn := inR_iff.1 hN
    obtain ⟨K, rfl⟩ : ∃ K : Nat, k = K := ⟨k.toNat, by omega⟩
    obtain ⟨M, rfl⟩ : ∃ M : Nat, n = M := ⟨n.toNat, by omega⟩
    have HO := Lib.hid (avoL_yes (langB_3 hS hN))
    have HN := Lib.hid hN; clear hS hN
    go_wp2_with (first | (go_at_call 59; refine (wIn' _ _ _ _).mono ?_; rintro e w2 ⟨rfl, rfl⟩; rw [HN.out]) | (go_at_call 90; refine (sl3Words K _ l M _ h1 hz (by omega) (by omega) (by omega)).mono ?_; rintro e w2 ⟨v2, rfl, ho2, hb2⟩))
    go_ret
    exact ⟨_, rfl, by rw [HO.out]; exact Own.mono ho2 hs1, b1.trans (hb2.mono hs1)⟩
set_option maxRecDepth 10000 in
set_option maxHeartbeats 400000 in
theorem iAvoidingWords (k : Int) (v : Value) (l : List ByteArray) (n : Int) (w : World) (hm : Ml w) (h : Strs w v l) (hz : ∀ x ∈ l, x.size ≤ 1048576) :
    Calls Tryz.prog 37 #[.agg #[.int .i64 k, v], .int .i64 n] w fun e w' => ∃ v', e = .returned v' ∧ OwnS 9 w.heap.size w' v' (avoL k l n) ∧ Below w.heap.size w w' := by
  have hb := below_alloc w (.cells #[.int .i64 k, v] 41)
  have c0 : (w.alloc (.cells #[.int .i64 k, v] 41)).cell? ⟨w.heap.size, 0, none⟩ = some (.int .i64 k) := by simp
  have c1 : (w.alloc (.cells #[.int .i64 k, v] 41)).cell? ⟨w.heap.size, 1, none⟩ = some v := by simp
  have he := Own.nil 9 w.heap.size w
  obtain ⟨a, m, cap, rfl, -⟩ := h.open
  go_enter Tryz.func37, Tryz.ntmps37
  go_wp2_with fail
  refine (iIsShift k _ l _ (h.keep hb) hz).mono ?_
  rintro e w1 ⟨rfl, hb1⟩
  have d0 := cell_keep hb1 c0
  have d1 := cell_keep hb1 c1
  have b1 := hb.trans (hb1.mono (by simp))
  have h1 := h.keep b1
  have hm1 := hm.keep b1
  have hs1 := b1.size
  have he1 := Own.nil 9 w.heap.size w1
  clear c0 c1 hb hb1 h hm he
  cases hS : isShift k l
  · have HO := Lib.hid (avoL_no (langB_1 (n := n) hS)); clear hS
    go_wp2
    go_ret
    exact ⟨_, rfl, by rw [HO.out]; exact he1, b1⟩
  by_cases hn0 : n < 0
  · have HO := Lib.hid (avoL_no (f := l) (langB_2 (k := k) (n := n) (inR_no.2 (by omega)))); clear hS
    go_wp2
    go_ret
    exact ⟨_, rfl, by rw [HO.out]; exact he1, b1⟩
  by_cases hn6 : 6 < n
  · have HO := Lib.hid (avoL_no (f := l) (langB_2 (k := k) (n := n) (inR_no.2 (by omega)))); clear hS
    go_wp2
    go_ret
    exact ⟨_, rfl, by rw [HO.out]; exact he1, b1⟩
  · have hk := isShift_letters hS
    obtain ⟨K, rfl⟩ : ∃ K : Nat, k = K := ⟨k.toNat, by omega⟩
    obtain ⟨M, rfl⟩ : ∃ M : Nat, n = M := ⟨n.toNat, by omega⟩
    have HO := Lib.hid (avoL_yes (langB_3 hS (inR_iff.2 (by omega : (0 : Int) ≤ (M : Int) ∧ (M : Int) ≤ 6)))); clear hS
    go_wp2_with fail
    refine (ifiltA K _ l K M _ hm1 h1 (by omega) (by omega) (by omega)).mono ?_
    rintro e w2 ⟨v2, rfl, ho2, hb2⟩
    go_wp2
    go_ret
    exact ⟨_, rfl, by rw [HO.out]; exact Own.mono ho2 hs1, b1.trans (hb2.mono hs1)⟩
end Go.Proofs.YtkohadoicebojaaGreatDoor
