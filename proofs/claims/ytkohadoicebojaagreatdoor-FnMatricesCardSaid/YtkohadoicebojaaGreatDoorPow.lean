/- Contracts of PowerMatrix and CountPaths, the program's and the reference's. No statement is proved here. -/
import Derived.Test.YtkohadoicebojaaGreatDoorMatF
import Derived.Test.YtkohadoicebojaaGreatDoorMatC
import Derived.Test.YtkohadoicebojaaGreatDoorStep
namespace Go.Proofs.YtkohadoicebojaaGreatDoor
open Go.RowKit Go.Deep
theorem unitF_isMat {n : Nat} (h1 : 1 ≤ n) (h9 : n ≤ 9) : isMat (tabF n n unitF) = true := by
  refine isMat_yes (tabF_length _ _ _) h1 h9 ?_
  rw [List.all_eq_true]
  intro r hr
  obtain ⟨i, hi, rfl⟩ := List.mem_map.1 hr
  refine rowOk_yes (rowF_length _ _) ?_
  rw [List.all_eq_true]
  intro x hx
  obtain ⟨j, hj, rfl⟩ := List.mem_map.1 hx
  rcases unitF_bits i j with h | h <;> rw [h] <;> decide
/-- The k-th power, as long as the ones before are matrices. -/
def powT (m : List (List Int)) : Nat → List (List Int)
  | 0 => tabF m.length m.length unitF
  | k + 1 => prodM (powT m k) m m.length
def powOk (m : List (List Int)) : Nat → Bool
  | 0 => true
  | k + 1 => powOk m k && mulOk (powT m k) m
def powB (m : List (List Int)) (x : Int) : Bool := isMat m && (inR x 0 30 && powOk m x.toNat)
def powM (m : List (List Int)) (x : Int) : List (List Int) := if powB m x = true then powT m x.toNat else []
theorem powT_length (m : List (List Int)) : ∀ k, (powT m k).length = m.length := by
  intro k
  cases k with
  | zero => exact tabF_length _ _ _
  | succ k => exact tabF_length _ _ _
theorem powT_zero {m : List (List Int)} {n : Nat} (h : m.length = n) : powT m 0 = tabF n n unitF := by subst h; rfl
theorem powT_succ {m : List (List Int)} {k : Nat} (h : mulOk (powT m k) m = true) : mulM (powT m k) m = powT m (k + 1) := by
  rw [mulM_yes h, powT_length]; rfl
theorem powOk_succ {m : List (List Int)} {k : Nat} (h : powOk m k = true) (h2 : mulOk (powT m k) m = true) : powOk m (k + 1) = true := by
  show (powOk m k && mulOk (powT m k) m) = true
  rw [h, h2]; rfl
theorem powOk_no {m : List (List Int)} {j : Nat} (h : mulOk (powT m j) m = false) : ∀ k, j < k → powOk m k = false := by
  intro k
  induction k with
  | zero => intro h2; omega
  | succ k ih =>
    intro h2
    show (powOk m k && mulOk (powT m k) m) = false
    by_cases e : j = k
    · subst e; rw [h, Bool.and_false]
    · rw [ih (by omega), Bool.false_and]
theorem powOk_le {m : List (List Int)} {k : Nat} (h : powOk m k = true) {j : Nat} (hj : j ≤ k) : powOk m j = true := by
  induction k with
  | zero => rw [show j = 0 by omega]; rfl
  | succ k ih =>
    have h' : (powOk m k && mulOk (powT m k) m) = true := h
    rw [Bool.and_eq_true] at h'
    by_cases e : j = k + 1
    · rw [e]; exact h
    · exact ih h'.1 (by omega)
theorem powB_m {m : List (List Int)} {x : Int} (h : isMat m = false) : powB m x = false := by unfold powB; rw [h, Bool.false_and]
theorem powB_x {m : List (List Int)} {x : Int} (h : inR x 0 30 = false) : powB m x = false := by unfold powB; rw [h, Bool.false_and, Bool.and_false]
theorem powB_k {m : List (List Int)} {N : Nat} (hm : isMat m = true) (h : inR (N : Int) 0 30 = true) {b : Bool} (hb : powOk m N = b) : powB m (N : Int) = b := by
  unfold powB; rw [hm, h, Int.toNat_natCast, hb]; rfl
theorem powM_no {m : List (List Int)} {x : Int} (h : powB m x = false) : powM m x = [] := by unfold powM; rw [if_neg (by simp [h])]
theorem powM_yes {m : List (List Int)} {N : Nat} (h : powB m (N : Int) = true) : powM m (N : Int) = powT m N := by unfold powM; rw [if_pos h, Int.toNat_natCast]
theorem powM_size (m : List (List Int)) (x : Int) : (powM m x).length + total (powM m x) ≤ 4000000 := by
  cases h : powB m x
  · rw [powM_no h]; decide
  · unfold powM
    rw [if_pos h]
    have h9 : m.length ≤ 9 := by unfold powB at h; simp only [Bool.and_eq_true] at h; exact (isMat_len h.1).2
    cases x.toNat with
    | zero => exact tabF_small _ _ _ (by omega) (by omega)
    | succ k => exact tabF_small _ _ _ (by omega) (by omega)
set_option maxRecDepth 10000 in
set_option maxHeartbeats 400000 in
theorem sPowerMatrix (v : Value) (m : List (List Int)) (x : Int) (w : World) (h : Mat w v m) :
    Calls Tryz.prog 11 #[v, .int .i64 x] w fun e w' => ∃ v', e = .returned (.tuple #[v', .bool (powB m x)]) ∧ OwnMat 62 3 w.heap.size w' v' (powM m x) ∧ Below w.heap.size w w' := by
  cases hm : isMat m
  · have HI := Lib.hid hm
    have HO := Lib.hid (powB_m (x := x) hm); clear hm
    go_enter Tryz.func11, Tryz.ntmps11
    go_wp2_with (go_at_call 17; refine (sIsMatrix _ m _ h).mono ?_; rintro e w2 ⟨rfl, rfl⟩; rw [HI.out])
    go_ret2
    exact ⟨_, ret2 rfl (val_bool HO.out.symm), by rw [powM_no HO.out]; exact OwnMat.empty _ _ _, below_alloc _ _⟩
  cases hx : inR x 0 30
  · have HI := Lib.hid hm; clear hm
    have HO := Lib.hid (powB_x (m := m) hx)
    have HX := Lib.hid hx; clear hx
    go_enter Tryz.func11, Tryz.ntmps11
    go_wp2_with (first | (go_at_call 17; refine (sIsMatrix _ m _ h).mono ?_; rintro e w2 ⟨rfl, rfl⟩; rw [HI.out]) | (go_at_call 59; refine (l1In _ _ _ _).mono ?_; rintro e w2 ⟨rfl, rfl⟩; rw [HX.out]))
    go_ret2
    exact ⟨_, ret2 rfl (val_bool HO.out.symm), by rw [powM_no HO.out]; exact OwnMat.empty _ _ _, below_alloc _ _⟩
  obtain ⟨N, rfl⟩ : ∃ N : Nat, x = N := ⟨x.toNat, by have := inR_iff.1 hx; omega⟩
  have hN : N ≤ 30 := by have := (inR_iff.1 hx).2; omega
  obtain ⟨a, n, cap, rfl, HL, hn, -⟩ := h.open
  have n9 : n ≤ 9 := by have := (isMat_len hm).2; have := HL.out; omega
  have HI := Lib.hid hm; clear hm
  have HX := Lib.hid hx; clear hx
  have HZ := Lib.hid (powT_zero HL.out)
  go_enter Tryz.func11, Tryz.ntmps11
  go_wp2_with (first | (go_at_call 17; refine (sIsMatrix _ m _ h).mono ?_; rintro e w2 ⟨rfl, rfl⟩; rw [HI.out]) | (go_at_call 59; refine (l1In _ _ _ _).mono ?_; rintro e w2 ⟨rfl, rfl⟩; rw [HX.out]) | (go_at_call 60; refine (sOne n _ (by omega)).mono ?_; rintro e w1 ⟨v1, rfl, ho1, hb1⟩))
  go_loopw [6, 7] (fun q i wr => ∃ k : Nat, k ≤ N ∧ i = .int .i64 k ∧ OwnMat 62 3 w.heap.size wr q (powT m k) ∧ Hid (powOk m k = true) ∧ Below w.heap.size w wr) (fun _ i _ => N - (intOf i).toNat)
  case atStart => exact ⟨0, Nat.zero_le _, rfl, by rw [HZ.out]; exact ho1, Lib.hid rfl, hb1⟩
  case round =>
    obtain ⟨k, hk, rfl, ho, HK, hb⟩ := hrel
    by_cases hlt : k < N
    · have hs := hb.size
      go_wp2_with fail
      refine (sMultiplyMatrices _ _ (powT m k) m _ ho.mat (h.keep hb)).mono ?_
      rintro e w2 ⟨v2, rfl, ho2, hb2⟩
      have hb3 := hb.trans (hb2.mono hs)
      cases hp : mulOk (powT m k) m
      · have HO := Lib.hid (powB_k HI.out HX.out (powOk_no hp N hlt)); clear hp
        go_wp2
        go_ret2
        exact ⟨_, ret2 rfl (val_bool HO.out.symm), by rw [powM_no HO.out]; exact (OwnMat.empty _ _ _).mono hb3.size, hb3.alloc hb3.size _⟩
      · have HO := Lib.hid (powOk_succ HK.out hp)
        have HS := Lib.hid (powT_succ hp); clear hp
        rw [HS.out] at ho2
        go_wp2
        go_roundw
        case rel => exact ⟨k + 1, by omega, by go_num, ho2.mono hs, HO, hb3⟩
        case measure => simp [intOf]; omega
    · have e : k = N := by omega
      subst e
      have HO := Lib.hid (powB_k HI.out HX.out HK.out)
      go_wp2
      go_ret2
      exact ⟨_, ret2 rfl (val_bool HO.out.symm), by rw [powM_yes HO.out]; exact ho, hb⟩
set_option maxRecDepth 10000 in
set_option maxHeartbeats 400000 in
theorem iPowerMatrix (v : Value) (m : List (List Int)) (x : Int) (w : World) (h : Mat w v m) :
    Calls Tryz.prog 10 #[v, .int .i64 x] w fun e w' => ∃ v', e = .returned (.tuple #[v', .bool (powB m x)]) ∧ OwnMat 62 3 w.heap.size w' v' (powM m x) ∧ Below w.heap.size w w' := by
  cases hm : isMat m
  · have HI := Lib.hid hm
    have HO := Lib.hid (powB_m (x := x) hm); clear hm
    go_enter Tryz.func10, Tryz.ntmps10
    go_wp2_with (go_at_call 16; refine (iIsMatrix _ m _ h).mono ?_; rintro e w2 ⟨rfl, rfl⟩; rw [HI.out])
    go_ret2
    exact ⟨_, ret2 rfl (val_bool HO.out.symm), by rw [powM_no HO.out]; exact OwnMat.nil _ _ _ _, Below.refl _ _⟩
  cases hx : inR x 0 30
  · have HI := Lib.hid hm; clear hm
    have HO := Lib.hid (powB_x (m := m) hx)
    by_cases hx0 : x < 0
    · clear hx
      go_enter Tryz.func10, Tryz.ntmps10
      go_wp2_with (go_at_call 16; refine (iIsMatrix _ m _ h).mono ?_; rintro e w2 ⟨rfl, rfl⟩; rw [HI.out])
      go_ret2
      exact ⟨_, ret2 rfl (val_bool HO.out.symm), by rw [powM_no HO.out]; exact OwnMat.nil _ _ _ _, Below.refl _ _⟩
    · have hx3 : 30 < x := by have := inR_no.1 hx; omega
      clear hx
      go_enter Tryz.func10, Tryz.ntmps10
      go_wp2_with (go_at_call 16; refine (iIsMatrix _ m _ h).mono ?_; rintro e w2 ⟨rfl, rfl⟩; rw [HI.out])
      go_ret2
      exact ⟨_, ret2 rfl (val_bool HO.out.symm), by rw [powM_no HO.out]; exact OwnMat.nil _ _ _ _, Below.refl _ _⟩
  obtain ⟨N, rfl⟩ : ∃ N : Nat, x = N := ⟨x.toNat, by have := inR_iff.1 hx; omega⟩
  have hN : N ≤ 30 := by have := (inR_iff.1 hx).2; omega
  obtain ⟨a, n, cap, rfl, HL, hn, -⟩ := h.open
  have n9 : n ≤ 9 := by have := (isMat_len hm).2; have := HL.out; omega
  have HI := Lib.hid hm; clear hm
  have HX := Lib.hid hx; clear hx
  have HZ := Lib.hid (powT_zero HL.out)
  go_enter Tryz.func10, Tryz.ntmps10
  go_wp2_with (first | (go_at_call 16; refine (iIsMatrix _ m _ h).mono ?_; rintro e w2 ⟨rfl, rfl⟩; rw [HI.out]) | (go_at_call 58; refine (iunit n _ (by omega)).mono ?_; rintro e w1 ⟨v1, rfl, ho1, hb1⟩))
  go_loopw [6, 23] (fun q i wr => ∃ k : Nat, k ≤ N ∧ i = .int .i64 k ∧ OwnMat 62 3 w.heap.size wr q (powT m k) ∧ Hid (powOk m k = true) ∧ Below w.heap.size w wr) (fun _ i _ => N - (intOf i).toNat)
  case atStart => exact ⟨0, Nat.zero_le _, rfl, by rw [HZ.out]; exact ho1, Lib.hid rfl, hb1⟩
  case round =>
    obtain ⟨k, hk, rfl, ho, HK, hb⟩ := hrel
    by_cases hlt : k < N
    · have hs := hb.size
      go_wp2_with fail
      refine (iMultiplyMatrices _ _ (powT m k) m _ ho.mat (h.keep hb)).mono ?_
      rintro e w2 ⟨v2, rfl, ho2, hb2⟩
      have hb3 := hb.trans (hb2.mono hs)
      cases hp : mulOk (powT m k) m
      · have HO := Lib.hid (powB_k HI.out HX.out (powOk_no hp N hlt)); clear hp
        go_wp2
        go_ret2
        exact ⟨_, ret2 rfl (val_bool HO.out.symm), by rw [powM_no HO.out]; exact OwnMat.nil _ _ _ _, hb3⟩
      · have HO := Lib.hid (powOk_succ HK.out hp)
        have HS := Lib.hid (powT_succ hp); clear hp
        rw [HS.out] at ho2
        go_wp2
        go_roundw
        case rel => exact ⟨k + 1, by omega, by go_num, ho2.mono hs, HO, hb3⟩
        case measure => simp [intOf]; omega
    · have e : k = N := by omega
      subst e
      have HO := Lib.hid (powB_k HI.out HX.out HK.out)
      go_wp2
      go_ret2
      exact ⟨_, ret2 rfl (val_bool HO.out.symm), by rw [powM_yes HO.out]; exact ho, hb⟩
def countP (m : List (List Int)) (x : Int) : Int := if powB m x = true then sumOf (powM m x) else -1
theorem countP_yes {m : List (List Int)} {x : Int} (h : powB m x = true) : countP m x = sumOf (powM m x) := if_pos h
theorem countP_no {m : List (List Int)} {x : Int} (h : powB m x = false) : countP m x = -1 := if_neg (by simp [h])
end Go.Proofs.YtkohadoicebojaaGreatDoor
