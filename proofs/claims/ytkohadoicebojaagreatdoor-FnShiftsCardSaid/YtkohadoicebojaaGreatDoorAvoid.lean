/- AvoidsAll, the program's and the reference's. No statement is proved here. -/
import Derived.Test.YtkohadoicebojaaGreatDoorShift
import Derived.Test.YtkohadoicebojaaGreatDoorOcc
namespace Go.Proofs.YtkohadoicebojaaGreatDoor
open Go.RowKit Go.Deep
def avo1 (s : ByteArray) (f : ByteArray) : Bool := !(occ s f)
def avo (l : List ByteArray) (s : ByteArray) : Bool := l.all (avo1 s)
theorem avo1_no {s f : ByteArray} (h : occ s f = true) : avo1 s f = false := by unfold avo1; rw [h]; rfl
theorem avo1_yes {s f : ByteArray} (h : occ s f = false) : avo1 s f = true := by unfold avo1; rw [h]; rfl
set_option maxRecDepth 10000 in
set_option maxHeartbeats 400000 in
theorem sAvoids (v : Value) (l : List ByteArray) (s : ByteArray) (w : World) (h : Strs w v l) (hz : ∀ x ∈ l, x.size ≤ 1048576) (hs : s.size ≤ 1048576) :
    Calls Tryz.prog 95 #[v, .string s] w fun e w' => e = .returned (.bool (avo l s)) ∧ w = w' := by
  obtain ⟨a, n, cap, rfl, HL, hn, HC⟩ := h.open
  have HZ := Lib.hid hz; clear hz h
  go_enter Tryz.func95, Tryz.ntmps95
  go_wp2
  go_loop [5] (fun i => ∃ j : Nat, j ≤ n ∧ i = .int .i64 j ∧ Hid ((l.take j).all (avo1 s) = true)) (fun i => n - (intOf i).toNat)
  case atStart => exact ⟨0, Nat.zero_le _, rfl, Lib.hid (by simp)⟩
  case round =>
    obtain ⟨j, hj, rfl, HT⟩ := hrel
    by_cases hlt : j < n
    · obtain ⟨b, off, x, rfl, hc, HX⟩ := HC.out j hlt
      have hxs := HZ.out x (List.mem_of_getElem? HX.out)
      cases ho : occ s x
      · have HO := Lib.hid ho; clear ho
        go_wp2_with (go_at_call 116; refine (sOccursIn s x _ hs hxs).mono ?_; rintro e w' ⟨rfl, rfl⟩; rw [HO.out])
        go_round
        case rel => exact ⟨j + 1, by omega, by go_num, Lib.hid (all_take_succ HX.out HT.out (avo1_yes HO.out))⟩
        case measure => simp [intOf]; omega
      · have HO := Lib.hid ho; clear ho
        go_wp2_with (go_at_call 116; refine (sOccursIn s x _ hs hxs).mono ?_; rintro e w' ⟨rfl, rfl⟩; rw [HO.out])
        go_ret
        exact ⟨ret_bool (all_false HX.out (avo1_no HO.out)).symm, rfl⟩
    · go_wp2
      go_ret
      exact ⟨ret_bool (all_take_all HL.out hlt HT.out).symm, rfl⟩
set_option maxRecDepth 10000 in
set_option maxHeartbeats 400000 in
theorem iavoids (k : Int) (v : Value) (l : List ByteArray) (s : ByteArray) (w : World) (hm : Ml w) (h : Strs w v l) (hs : s.size ≤ 1048576) :
    Calls Tryz.prog 89 #[.agg #[.int .i64 k, v], .string s] w fun e w' => e = .returned (.bool (avo l s)) ∧ Below w.heap.size w w' := by
  obtain ⟨a, n, cap, rfl, HL, hn, HC⟩ := h.open
  clear h
  have hb := below_alloc w (.cells #[.int .i64 k, .slice a n cap] 41)
  obtain ⟨mx, hmx⟩ := hm.keep hb
  go_enter Tryz.func89, Tryz.ntmps89
  go_wp2
  go_loop [10] (fun i => ∃ j : Nat, j ≤ n ∧ i = .int .i64 j ∧ Hid ((l.take j).all (avo1 s) = true)) (fun i => n - (intOf i).toNat)
  case atStart => exact ⟨0, Nat.zero_le _, rfl, Lib.hid (by simp)⟩
  case round =>
    obtain ⟨j, hj, rfl, HT⟩ := hrel
    by_cases hlt : j < n
    · obtain ⟨b, off, x, rfl, hc, HX⟩ := HC.out j hlt
      have hc' := fun o => cell_keep (below_alloc w o) hc
      clear hc
      cases ho : occ s x
      · have HO := Lib.hid ho; clear ho
        go_wp2_with (go_at_call 118; refine (Tryz.strings_Contains s x mx _ (by omega) hmx).mono ?_; rintro e w' ⟨rfl, rfl⟩; rw [show Lib.contains s.data.toList x.data.toList = false from HO.out])
        go_round
        case rel => exact ⟨j + 1, by omega, by go_num, Lib.hid (all_take_succ HX.out HT.out (avo1_yes HO.out))⟩
        case measure => simp [intOf]; omega
      · have HO := Lib.hid ho; clear ho
        go_wp2_with (go_at_call 118; refine (Tryz.strings_Contains s x mx _ (by omega) hmx).mono ?_; rintro e w' ⟨rfl, rfl⟩; rw [show Lib.contains s.data.toList x.data.toList = true from HO.out])
        go_ret
        exact ⟨ret_bool (all_false HX.out (avo1_no HO.out)).symm, hb⟩
    · go_wp2
      go_ret
      exact ⟨ret_bool (all_take_all HL.out hlt HT.out).symm, hb⟩
def avoidsAll (k : Int) (l : List ByteArray) (s : ByteArray) : Bool := isShift k l && (isWord k s && avo l s)
theorem avoidsAll_1 {k : Int} {l : List ByteArray} {s : ByteArray} (h : isShift k l = false) : avoidsAll k l s = false := by unfold avoidsAll; rw [h]; rfl
theorem avoidsAll_2 {k : Int} {l : List ByteArray} {s : ByteArray} (h : isWord k s = false) : avoidsAll k l s = false := by unfold avoidsAll; rw [h, Bool.false_and, Bool.and_false]
theorem avoidsAll_3 {k : Int} {l : List ByteArray} {s : ByteArray} (h : isShift k l = true) (h2 : isWord k s = true) : avoidsAll k l s = avo l s := by unfold avoidsAll; rw [h, h2]; rfl
set_option maxRecDepth 10000 in
set_option maxHeartbeats 400000 in
theorem sAvoidsAll (k : Int) (v : Value) (l : List ByteArray) (s : ByteArray) (w : World) (h : Strs w v l) (hz : ∀ x ∈ l, x.size ≤ 1048576) (hs : s.size ≤ 1048576) :
    Calls Tryz.prog 43 #[.agg #[.int .i64 k, v], .string s] w fun e w' => e = .returned (.bool (avoidsAll k l s)) ∧ Below w.heap.size w w' := by
  have hb := below_alloc w (.cells #[.int .i64 k, v] 41)
  have c0 : (w.alloc (.cells #[.int .i64 k, v] 41)).cell? ⟨w.heap.size, 0, none⟩ = some (.int .i64 k) := by simp
  have c1 : (w.alloc (.cells #[.int .i64 k, v] 41)).cell? ⟨w.heap.size, 1, none⟩ = some v := by simp
  obtain ⟨a, n, cap, rfl, -⟩ := h.open
  go_enter Tryz.func43, Tryz.ntmps43
  go_wp2_with fail
  refine (sIsShift k _ l _ (h.keep hb) hz).mono ?_
  rintro e w1 ⟨rfl, hb1⟩
  have d0 := cell_keep hb1 c0
  have d1 := cell_keep hb1 c1
  have b1 := hb.trans (hb1.mono (by simp))
  clear c0 c1 hb hb1
  cases hS : isShift k l
  · have HO := Lib.hid (avoidsAll_1 (s := s) hS); clear hS
    go_wp2
    go_ret
    exact ⟨ret_bool HO.out.symm, b1⟩
  cases hW : isWord k s
  · have HO := Lib.hid (avoidsAll_2 (l := l) hW)
    have HW := Lib.hid hW; clear hS hW
    go_wp2_with (go_at_call 94; refine (sIsWord _ _ _ hs).mono ?_; rintro e w' ⟨rfl, rfl⟩; rw [HW.out])
    go_ret
    exact ⟨ret_bool HO.out.symm, b1⟩
  · have HO := Lib.hid (avoidsAll_3 hS hW)
    have HW := Lib.hid hW; clear hS hW
    go_wp2_with (first | (go_at_call 94; refine (sIsWord _ _ _ hs).mono ?_; rintro e w' ⟨rfl, rfl⟩; rw [HW.out]) | (go_at_call 95; refine (sAvoids _ l s _ (h.keep b1) hz hs).mono ?_; rintro e w' ⟨rfl, rfl⟩))
    go_ret
    exact ⟨ret_bool HO.out.symm, b1⟩
set_option maxRecDepth 10000 in
set_option maxHeartbeats 400000 in
theorem iAvoidsAll (k : Int) (v : Value) (l : List ByteArray) (s : ByteArray) (w : World) (hm : Ml w) (h : Strs w v l) (hz : ∀ x ∈ l, x.size ≤ 1048576) (hs : s.size ≤ 1048576) :
    Calls Tryz.prog 42 #[.agg #[.int .i64 k, v], .string s] w fun e w' => e = .returned (.bool (avoidsAll k l s)) ∧ Below w.heap.size w w' := by
  have hb := below_alloc w (.cells #[.int .i64 k, v] 41)
  have c0 : (w.alloc (.cells #[.int .i64 k, v] 41)).cell? ⟨w.heap.size, 0, none⟩ = some (.int .i64 k) := by simp
  have c1 : (w.alloc (.cells #[.int .i64 k, v] 41)).cell? ⟨w.heap.size, 1, none⟩ = some v := by simp
  obtain ⟨a, n, cap, rfl, -⟩ := h.open
  go_enter Tryz.func42, Tryz.ntmps42
  go_wp2_with fail
  refine (iIsShift k _ l _ (h.keep hb) hz).mono ?_
  rintro e w1 ⟨rfl, hb1⟩
  have d0 := cell_keep hb1 c0
  have d1 := cell_keep hb1 c1
  have b1 := hb.trans (hb1.mono (by simp))
  clear c0 c1 hb hb1
  cases hS : isShift k l
  · have HO := Lib.hid (avoidsAll_1 (s := s) hS); clear hS
    go_wp2
    go_ret
    exact ⟨ret_bool HO.out.symm, b1⟩
  cases hW : isWord k s
  · have HO := Lib.hid (avoidsAll_2 (l := l) hW)
    have HW := Lib.hid hW; clear hS hW
    go_wp2_with (go_at_call 91; refine (iIsWord _ _ _ hs).mono ?_; rintro e w' ⟨rfl, rfl⟩; rw [HW.out])
    go_ret
    exact ⟨ret_bool HO.out.symm, b1⟩
  · have HO := Lib.hid (avoidsAll_3 hS hW)
    have HW := Lib.hid hW; clear hS hW
    go_wp2_with fail
    refine (iIsWord _ _ _ hs).mono ?_
    rintro e w' ⟨rfl, rfl⟩
    rw [HW.out]
    go_wp2_with fail
    refine (iavoids k _ l s _ (hm.keep b1) (h.keep b1) hs).mono ?_
    rintro e w' ⟨rfl, hb2⟩
    go_wp2
    go_ret
    exact ⟨ret_bool HO.out.symm, b1.trans (hb2.mono b1.size)⟩
end Go.Proofs.YtkohadoicebojaaGreatDoor
