/- Shifts: the laws' own helpers, and IsShift, the program's and the reference's. No statement is proved here. -/
import Derived.Test.YtloicjojhfpihaaDoorStrsH
import Derived.Test.YtloicjojhfpihaaDoorWordA
import Derived.Test.YtloicjojhfpihaaDoorHelp
namespace Go.Proofs.YtloicjojhfpihaaDoor
open Go.RowKit Go.Deep
theorem bcell {W w1 : World} (hb : Below W.heap.size W w1) : (∀ b o, b < W.heap.size → w1.cell? ⟨b, o, none⟩ = W.cell? ⟨b, o, none⟩) ∧ (∀ b o, b < W.heap.size → w1.frozen? ⟨b, o, none⟩ = W.frozen? ⟨b, o, none⟩) :=
  ⟨fun b o h => hb.cell (p := ⟨b, o, none⟩) h, fun b o h => hb.frozen (p := ⟨b, o, none⟩) h⟩
/-- A shift as a value. -/
def shv (k : Int) (v : Value) : Value := .agg #[.int .i64 k, v]
set_option maxRecDepth 10000 in
set_option maxHeartbeats 400000 in
theorem eqShift (k : Int) (v v' : Value) (l : List ByteArray) (w : World) (h : Strs w v l) (h' : Strs w v' l) :
    Calls Tryd.prog 7 #[.agg #[.int .i64 k, v], .agg #[.int .i64 k, v']] w fun e w' => e = .returned (.bool true) ∧ Below w.heap.size w w' := by
  have hb := below_alloc w (.cells #[.int .i64 k, v] 24)
  have hb2 := hb.trans ((below_alloc (w.alloc (.cells #[.int .i64 k, v] 24)) (.cells #[.int .i64 k, v'] 24)).mono (by simp))
  go_enter Tryd.func7, Tryd.ntmps7
  go_wp2_with (go_at_call 21; refine (eqStringS v v' l l _ (h.keep hb2) (h'.keep hb2)).mono ?_; rintro e w2 ⟨rfl, hd⟩; rw [same_refl])
  go_ret
  exact ⟨rfl, hb2.trans (hd.below _)⟩
def shAt (k : Int) (l : List ByteArray) (i : Nat) : Bool :=
  letters k (l.getD i ByteArray.empty) && (inR ((l.getD i ByteArray.empty).size : Int) 1 3 && (decide (i = 0) || ltS (l.getD (i - 1) ByteArray.empty) (l.getD i ByteArray.empty)))
def isShift (k : Int) (l : List ByteArray) : Bool := inR k 1 3 && (decide (l.length ≤ 8) && (List.range l.length).all (shAt k l))
theorem isShift_k {k : Int} {l : List ByteArray} (h : inR k 1 3 = false) : isShift k l = false := by unfold isShift; rw [h, Bool.false_and]
theorem isShift_len {k : Int} {l : List ByteArray} {n : Nat} (hl : l.length = n) (h : 8 < n) : isShift k l = false := by unfold isShift; rw [hl, decide_eq_false (by omega), Bool.false_and, Bool.and_false]
theorem range_get' {n j : Nat} (h : j < n) : (List.range n)[j]? = some j := by simp [h]
theorem isShift_at {k : Int} {l : List ByteArray} {n j : Nat} (hl : l.length = n) (hj : j < n) (h : shAt k l j = false) : isShift k l = false := by
  unfold isShift; rw [hl, all_false (range_get' hj) h, Bool.and_false, Bool.and_false]
theorem isShift_yes {k : Int} {l : List ByteArray} {n j : Nat} (hl : l.length = n) (hk : inR k 1 3 = true) (h8 : ¬ 8 < n) (hj : ¬ j < n) (h : ((List.range n).take j).all (shAt k l) = true) : isShift k l = true := by
  unfold isShift; rw [hl, hk, decide_eq_true (by omega), all_take_all (List.length_range) hj h]; rfl
theorem shAt_let {k : Int} {l : List ByteArray} {j : Nat} {x : ByteArray} (hx : l[j]? = some x) (h : letters k x = false) : shAt k l j = false := by unfold shAt; rw [getD_of_get hx, h, Bool.false_and]
theorem shAt_size {k : Int} {l : List ByteArray} {j : Nat} {x : ByteArray} (hx : l[j]? = some x) (h : inR (x.size : Int) 1 3 = false) : shAt k l j = false := by unfold shAt; rw [getD_of_get hx, h, Bool.false_and, Bool.and_false]
theorem shAt_zero {k : Int} {l : List ByteArray} {x : ByteArray} (hx : l[0]? = some x) (h : letters k x = true) (h2 : inR (x.size : Int) 1 3 = true) : shAt k l 0 = true := by unfold shAt; rw [getD_of_get hx, h, h2]; rfl
theorem shAt_succ {k : Int} {l : List ByteArray} {j : Nat} {x y : ByteArray} (hx : l[j + 1]? = some x) (hy : l[j]? = some y) (h : letters k x = true) (h2 : inR (x.size : Int) 1 3 = true) {b : Bool} (hb : ltS y x = b) : shAt k l (j + 1) = b := by
  unfold shAt; rw [getD_of_get hx, h, h2, Nat.add_sub_cancel, getD_of_get hy, hb]; simp
set_option maxRecDepth 10000 in
set_option maxHeartbeats 400000 in
theorem iIsShift (k : Int) (v : Value) (l : List ByteArray) (w : World) (h : Strs w v l) (hz : ∀ s ∈ l, s.size ≤ 1048576) :
    Calls Tryd.prog 20 #[.agg #[.int .i64 k, v]] w fun e w' => e = .returned (.bool (isShift k l)) ∧ Below w.heap.size w w' := by
  have hb := below_alloc w (.cells #[.int .i64 k, v] 24)
  obtain ⟨a, n, cap, rfl, HL, hn, HC⟩ := h.open
  have HZ := Lib.hid hz; clear hz h
  cases hk : inR k 1 3
  · have HK := Lib.hid hk
    have HO := Lib.hid (isShift_k (l := l) hk); clear hk
    go_enter Tryd.func20, Tryd.ntmps20
    go_wp2_with (go_at_call 35; refine (isLetters _ _).mono ?_; rintro e w' ⟨rfl, rfl⟩; rw [HK.out])
    go_ret
    exact ⟨ret_bool HO.out.symm, hb⟩
  have HK := Lib.hid hk; clear hk
  by_cases h8 : 8 < (n : Int)
  · have HO := Lib.hid (isShift_len (k := k) HL.out (by omega))
    go_enter Tryd.func20, Tryd.ntmps20
    go_wp2_with (go_at_call 35; refine (isLetters _ _).mono ?_; rintro e w' ⟨rfl, rfl⟩; rw [HK.out])
    go_ret
    exact ⟨ret_bool HO.out.symm, hb⟩
  have h8' : ¬ 8 < n := by omega
  go_enter Tryd.func20, Tryd.ntmps20
  go_wp2_with (go_at_call 35; refine (isLetters _ _).mono ?_; rintro e w' ⟨rfl, rfl⟩; rw [HK.out])
  go_loop [18] (fun i => ∃ j : Nat, j ≤ n ∧ i = .int .i64 j ∧ Hid (((List.range n).take j).all (shAt k l) = true)) (fun i => n - (intOf i).toNat)
  case atStart => exact ⟨0, Nat.zero_le _, rfl, Lib.hid (by simp)⟩
  case round =>
    obtain ⟨j, hj, rfl, HT⟩ := hrel
    by_cases hlt : j < n
    · obtain ⟨b, off, x, rfl, hc, HX⟩ := HC.out j hlt
      have hc' := fun o => cell_keep (below_alloc w o) hc
      have hxs := HZ.out x (List.mem_of_getElem? HX.out)
      clear hc
      cases hlet : letters k x
      · have HLT := Lib.hid hlet
        have HO := Lib.hid (isShift_at HL.out hlt (shAt_let HX.out hlet)); clear hlet
        go_wp2_with (go_at_call 36; refine (areLetters _ _ _ hxs).mono ?_; rintro e w' ⟨rfl, rfl⟩; rw [HLT.out])
        go_ret
        exact ⟨ret_bool HO.out.symm, hb⟩
      have HLT := Lib.hid hlet; clear hlet
      by_cases hs1 : (x.size : Int) < 1
      · have HO := Lib.hid (isShift_at (k := k) HL.out hlt (shAt_size HX.out (inR_no.2 (by omega))))
        go_wp2_with (go_at_call 36; refine (areLetters _ _ _ hxs).mono ?_; rintro e w' ⟨rfl, rfl⟩; rw [HLT.out])
        go_ret
        exact ⟨ret_bool HO.out.symm, hb⟩
      by_cases hs3 : 3 < (x.size : Int)
      · have HO := Lib.hid (isShift_at (k := k) HL.out hlt (shAt_size HX.out (inR_no.2 (by omega))))
        go_wp2_with (go_at_call 36; refine (areLetters _ _ _ hxs).mono ?_; rintro e w' ⟨rfl, rfl⟩; rw [HLT.out])
        go_ret
        exact ⟨ret_bool HO.out.symm, hb⟩
      have HSZ : Hid (inR (x.size : Int) 1 3 = true) := Lib.hid (inR_iff.2 (by omega))
      cases j with
      | zero =>
        simp only [Nat.add_zero] at hc'
        go_wp2_with (go_at_call 36; refine (areLetters _ _ _ hxs).mono ?_; rintro e w' ⟨rfl, rfl⟩; rw [HLT.out])
        go_round
        case rel => exact ⟨1, by omega, by go_num, Lib.hid (all_take_succ (range_get' hlt) HT.out (shAt_zero HX.out HLT.out HSZ.out))⟩
        case measure => simp [intOf]; omega
      | succ j =>
        obtain ⟨b2, off2, y, hab, hcy, HY⟩ := HC.out j (by omega)
        cases hab
        have hcy' := fun o => cell_keep (below_alloc w o) hcy
        clear hcy
        cases hb9 : ltS y x
        · have hbl : Op.bytesLess y.toList x.toList = false := by rw [bytesLess_ltS]; exact hb9
          have HO := Lib.hid (isShift_at HL.out hlt (shAt_succ HX.out HY.out HLT.out HSZ.out hb9)); clear hb9
          go_wp2_with (go_at_call 36; refine (areLetters _ _ _ hxs).mono ?_; rintro e w' ⟨rfl, rfl⟩; rw [HLT.out])
          go_ret
          exact ⟨ret_bool HO.out.symm, hb⟩
        · have hbl : Op.bytesLess y.toList x.toList = true := by rw [bytesLess_ltS]; exact hb9
          have HO := Lib.hid (shAt_succ HX.out HY.out HLT.out HSZ.out hb9); clear hb9
          go_wp2_with (go_at_call 36; refine (areLetters _ _ _ hxs).mono ?_; rintro e w' ⟨rfl, rfl⟩; rw [HLT.out])
          go_round
          case rel => exact ⟨j + 2, by omega, by go_num, Lib.hid (all_take_succ (range_get' hlt) HT.out HO.out)⟩
          case measure => simp [intOf]; omega
    · have HO := Lib.hid (isShift_yes HL.out HK.out h8' hlt HT.out)
      go_wp2
      go_ret
      exact ⟨ret_bool HO.out.symm, hb⟩
set_option maxRecDepth 10000 in
set_option maxHeartbeats 400000 in
theorem sIsShift (k : Int) (v : Value) (l : List ByteArray) (w : World) (h : Strs w v l) (hz : ∀ s ∈ l, s.size ≤ 1048576) :
    Calls Tryd.prog 17 #[.agg #[.int .i64 k, v]] w fun e w' => e = .returned (.bool (isShift k l)) ∧ Below w.heap.size w w' := by
  have hb := below_alloc w (.cells #[.int .i64 k, v] 24)
  obtain ⟨a, n, cap, rfl, HL, hn, HC⟩ := h.open
  have HZ := Lib.hid hz; clear hz h
  go_enter Tryd.func17, Tryd.ntmps17
  go_wp2
  go_loop [3] (fun i => ∃ j : Nat, j ≤ n ∧ i = .int .i64 j ∧ Hid (((List.range n).take j).all (shAt k l) = true)) (fun i => n - (intOf i).toNat)
  case atStart => exact ⟨0, Nat.zero_le _, rfl, Lib.hid (by simp)⟩
  case round =>
    obtain ⟨j, hj, rfl, HT⟩ := hrel
    by_cases hlt : j < n
    · obtain ⟨b, off, x, rfl, hc, HX⟩ := HC.out j hlt
      have hc' := fun o => cell_keep (below_alloc w o) hc
      have hxs := HZ.out x (List.mem_of_getElem? HX.out)
      clear hc
      cases hw : isWord k x
      · have HW := Lib.hid hw
        have HO : Hid (isShift k l = false ∨ 3 < (x.size : Int)) := Lib.hid (by
          by_cases h3 : 3 < (x.size : Int)
          · exact .inr h3
          · left
            cases hl : letters k x
            · exact isShift_at HL.out hlt (shAt_let HX.out hl)
            · cases hk : inR k 1 3
              · exact isShift_k hk
              · rw [isWord_end hl, hk, decide_eq_true (by omega)] at hw; cases hw)
        have HO2 : Hid (isShift k l = false) := Lib.hid (HO.out.elim id fun h3 => isShift_at HL.out hlt (shAt_size HX.out (inR_no.2 (by omega))))
        clear hw HO
        go_wp2_with (go_at_call 31; refine (sIsWord _ _ _ hxs).mono ?_; rintro e w' ⟨rfl, rfl⟩; rw [HW.out])
        go_ret
        exact ⟨ret_bool HO2.out.symm, hb⟩
      have HLT := Lib.hid (isWord_letters hw)
      have HW := Lib.hid hw; clear hw
      cases hsz : inR (x.size : Int) 1 3
      · have HS := Lib.hid hsz
        have HO := Lib.hid (isShift_at (k := k) HL.out hlt (shAt_size HX.out hsz)); clear hsz
        go_wp2_with (first | (go_at_call 31; refine (sIsWord _ _ _ hxs).mono ?_; rintro e w' ⟨rfl, rfl⟩; rw [HW.out]) | (go_at_call 32; refine (wIn' _ _ _ _).mono ?_; rintro e w' ⟨rfl, rfl⟩; rw [HS.out]))
        go_ret
        exact ⟨ret_bool HO.out.symm, hb⟩
      have HSZ := Lib.hid hsz; clear hsz
      cases j with
      | zero =>
        simp only [Nat.add_zero] at hc'
        go_wp2_with (first | (go_at_call 31; refine (sIsWord _ _ _ hxs).mono ?_; rintro e w' ⟨rfl, rfl⟩; rw [HW.out]) | (go_at_call 32; refine (wIn' _ _ _ _).mono ?_; rintro e w' ⟨rfl, rfl⟩; rw [HSZ.out]))
        go_round
        case rel => exact ⟨1, by omega, by go_num, Lib.hid (all_take_succ (range_get' hlt) HT.out (shAt_zero HX.out HLT.out HSZ.out))⟩
        case measure => simp [intOf]; omega
      | succ j =>
        obtain ⟨b2, off2, y, hab, hcy, HY⟩ := HC.out j (by omega)
        cases hab
        have hcy' := fun o => cell_keep (below_alloc w o) hcy
        clear hcy
        cases hb9 : ltS y x
        · have hbl : Op.bytesLess y.toList x.toList = false := by rw [bytesLess_ltS]; exact hb9
          have HO := Lib.hid (isShift_at HL.out hlt (shAt_succ HX.out HY.out HLT.out HSZ.out hb9)); clear hb9
          go_wp2_with (first | (go_at_call 31; refine (sIsWord _ _ _ hxs).mono ?_; rintro e w' ⟨rfl, rfl⟩; rw [HW.out]) | (go_at_call 32; refine (wIn' _ _ _ _).mono ?_; rintro e w' ⟨rfl, rfl⟩; rw [HSZ.out]))
          go_ret
          exact ⟨ret_bool HO.out.symm, hb⟩
        · have hbl : Op.bytesLess y.toList x.toList = true := by rw [bytesLess_ltS]; exact hb9
          have HO := Lib.hid (shAt_succ HX.out HY.out HLT.out HSZ.out hb9); clear hb9
          go_wp2_with (first | (go_at_call 31; refine (sIsWord _ _ _ hxs).mono ?_; rintro e w' ⟨rfl, rfl⟩; rw [HW.out]) | (go_at_call 32; refine (wIn' _ _ _ _).mono ?_; rintro e w' ⟨rfl, rfl⟩; rw [HSZ.out]))
          go_round
          case rel => exact ⟨j + 2, by omega, by go_num, Lib.hid (all_take_succ (range_get' hlt) HT.out HO.out)⟩
          case measure => simp [intOf]; omega
    · cases hk : inR k 1 3
      · have HK := Lib.hid hk
        have HO := Lib.hid (isShift_k (l := l) hk); clear hk
        go_wp2_with (go_at_call 32; refine (wIn' _ _ _ _).mono ?_; rintro e w' ⟨rfl, rfl⟩; rw [HK.out])
        go_ret
        exact ⟨ret_bool HO.out.symm, hb⟩
      have HK := Lib.hid hk; clear hk
      by_cases h8 : 8 < n
      · have HO := Lib.hid (isShift_len (k := k) HL.out h8)
        have hd : decide ((n : Int) ≤ 8) = false := decide_eq_false (by omega)
        go_wp2_with (go_at_call 32; refine (wIn' _ _ _ _).mono ?_; rintro e w' ⟨rfl, rfl⟩; rw [HK.out])
        go_ret
        exact ⟨ret_bool HO.out.symm, hb⟩
      · have HO := Lib.hid (isShift_yes HL.out HK.out h8 hlt HT.out)
        have hd : decide ((n : Int) ≤ 8) = true := decide_eq_true (by omega)
        go_wp2_with (go_at_call 32; refine (wIn' _ _ _ _).mono ?_; rintro e w' ⟨rfl, rfl⟩; rw [HK.out])
        go_ret
        exact ⟨ret_bool HO.out.symm, hb⟩
end Go.Proofs.YtloicjojhfpihaaDoor
