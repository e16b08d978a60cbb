/- Contracts of the small functions on words, the program's and the reference's. No statement is proved here. -/
import Derived.Test.YtidfnhoeaofgeaaRows
import Derived.Test.YtidfnhoeaofgeaaStr
import Derived.WalkKit
import Derived.WalkSpells
import Derived.WalkLawsBesides
import Derived.BigQuiet
import Derived.Deep.QuietTactic
namespace Go.Proofs.Ytidfnhoeaofgeaa
open Go.RowKit Go.Deep

def letOk (k : Int) (c : UInt8) : Bool := decide (97 ≤ (c.toNat : Int)) && decide ((c.toNat : Int) - 97 < k)
def letters (k : Int) (s : ByteArray) : Bool := (bts s).all (letOk k)
def isWord (k : Int) (s : ByteArray) : Bool := letters k s && (inR k 1 3 && decide (s.size ≤ 16))
theorem letOk_lo {k : Int} {c : UInt8} (h : (c.toNat : Int) < 97) : letOk k c = false := by simp [letOk]; omega
theorem letOk_hi {k : Int} {c : UInt8} (h : k ≤ (c.toNat : Int) - 97) : letOk k c = false := by simp [letOk]; omega
theorem letOk_yes {k : Int} {c : UInt8} (h : ¬ (c.toNat : Int) < 97) (h2 : (c.toNat : Int) - 97 < k) : letOk k c = true := by simp [letOk]; omega
theorem isWord_no {k : Int} {s : ByteArray} (h : letters k s = false) : isWord k s = false := by unfold isWord; rw [h, Bool.false_and]
theorem isWord_end {k : Int} {s : ByteArray} (h : letters k s = true) : isWord k s = (inR k 1 3 && decide (s.size ≤ 16)) := by unfold isWord; rw [h, Bool.true_and]
theorem isWord_size {k : Int} {s : ByteArray} (h : isWord k s = true) : s.size ≤ 16 := by
  unfold isWord at h; simp only [Bool.and_eq_true, decide_eq_true_eq] at h; exact h.2.2
theorem isWord_k {k : Int} {s : ByteArray} (h : isWord k s = true) : 1 ≤ k ∧ k ≤ 3 := by
  unfold isWord at h; simp only [Bool.and_eq_true, decide_eq_true_eq] at h; exact inR_iff.1 h.2.1
theorem isWord_letters {k : Int} {s : ByteArray} (h : isWord k s = true) : letters k s = true := by
  unfold isWord at h; simp only [Bool.and_eq_true, decide_eq_true_eq] at h; exact h.1
theorem l1In (a b c : Int) (w : World) :
    Calls Try.prog 61 #[.int .i64 a, .int .i64 b, .int .i64 c] w fun e w' => e = .returned (.bool (inR a b c)) ∧ w = w' := by
  go_enter Try.func61, Try.ntmps61
  go_wp2
  all_goals (go_ret; exact ⟨ret_bool (by unfold inR; simp [*]; try omega), rfl⟩)
theorem l1In' (a b c : Int) (w : World) :
    Calls Try.prog 61 #[.int .i64 a, .int .i64 b, .int .i64 c] w fun e w' => e = .returned (.bool (inR a b c)) ∧ w = w' := by
  go_enter Try.func61, Try.ntmps61
  go_wp2
  all_goals (go_ret; exact ⟨ret_bool (by unfold inR; simp [*]; try omega), rfl⟩)
set_option maxRecDepth 10000 in
set_option maxHeartbeats 400000 in
theorem sIsWord (k : Int) (s : ByteArray) (w : World) (hs : s.size ≤ 1048576) :
    Calls Try.prog 48 #[.int .i64 k, .string s] w fun e w' => e = .returned (.bool (isWord k s)) ∧ w = w' := by
  go_enter Try.func48, Try.ntmps48
  go_wp2
  go_loop [5] (fun i => ∃ j : Nat, j ≤ s.size ∧ i = .int .i64 j ∧ Hid (((bts s).take j).all (letOk k) = true)) (fun i => s.size - (intOf i).toNat)
  case atStart => exact ⟨0, Nat.zero_le _, rfl, Lib.hid rfl⟩
  case round =>
    obtain ⟨j, hj, rfl, HT⟩ := hrel
    by_cases hlt : j < s.size
    · obtain ⟨c, hc, HC, hb⟩ := byte_at hlt
      by_cases h1 : (c.toNat : Int) < 97
      · go_wp2
        go_ret
        exact ⟨ret_bool (isWord_no (all_false HC.out (letOk_lo (by omega)))).symm, rfl⟩
      by_cases h2 : (c.toNat : Int) - 97 < k
      · go_wp2
        go_round
        case rel => exact ⟨j + 1, by omega, by go_num, Lib.hid (all_take_succ HC.out HT.out (letOk_yes (by omega) (by omega)))⟩
        case measure => simp [intOf]; omega
      · go_wp2
        go_ret
        exact ⟨ret_bool (isWord_no (all_false HC.out (letOk_hi (by omega)))).symm, rfl⟩
    · have HA := Lib.hid (isWord_end (k := k) (all_take_all (bts_length s) hlt HT.out))
      cases hk : inR k 1 3
      · have HK := Lib.hid hk; clear hk
        go_wp2_with (go_at_call 61; refine (l1In' _ _ _ _).mono ?_; rintro e w' ⟨rfl, rfl⟩; rw [HK.out])
        go_ret
        exact ⟨ret_bool (by rw [HA.out, HK.out]; rfl), rfl⟩
      · have HK := Lib.hid hk; clear hk
        go_wp2_with (go_at_call 61; refine (l1In' _ _ _ _).mono ?_; rintro e w' ⟨rfl, rfl⟩; rw [HK.out])
        go_ret
        exact ⟨ret_bool (by rw [HA.out, HK.out, Bool.true_and]; exact decide_eq_decide.2 (by omega)), rfl⟩
theorem isLetters (k : Int) (w : World) :
    Calls Try.prog 63 #[.int .i64 k] w fun e w' => e = .returned (.bool (inR k 1 3)) ∧ w = w' := by
  go_enter Try.func63, Try.ntmps63
  go_wp2
  all_goals (go_ret; exact ⟨ret_bool (by unfold inR; simp [*]; try omega), rfl⟩)
set_option maxRecDepth 10000 in
set_option maxHeartbeats 400000 in
theorem areLetters (k : Int) (s : ByteArray) (w : World) (hs : s.size ≤ 1048576) :
    Calls Try.prog 84 #[.int .i64 k, .string s] w fun e w' => e = .returned (.bool (letters k s)) ∧ w = w' := by
  go_enter Try.func84, Try.ntmps84
  go_wp2
  go_loop [8] (fun i => ∃ j : Nat, j ≤ s.size ∧ i = .int .i64 j ∧ Hid (((bts s).take j).all (letOk k) = true)) (fun i => s.size - (intOf i).toNat)
  case atStart => exact ⟨0, Nat.zero_le _, rfl, Lib.hid rfl⟩
  case round =>
    obtain ⟨j, hj, rfl, HT⟩ := hrel
    by_cases hlt : j < s.size
    · obtain ⟨c, hc, HC, hb⟩ := byte_at hlt
      by_cases h1 : (c.toNat : Int) < 97
      · go_wp2
        go_ret
        exact ⟨ret_bool (all_false HC.out (letOk_lo (by omega))).symm, rfl⟩
      by_cases h2 : (c.toNat : Int) - 97 < k
      · go_wp2
        go_round
        case rel => exact ⟨j + 1, by omega, by go_num, Lib.hid (all_take_succ HC.out HT.out (letOk_yes (by omega) (by omega)))⟩
        case measure => simp [intOf]; omega
      · go_wp2
        go_ret
        exact ⟨ret_bool (all_false HC.out (letOk_hi (by omega))).symm, rfl⟩
    · go_wp2
      go_ret
      exact ⟨ret_bool (all_take_all (bts_length s) hlt HT.out).symm, rfl⟩
set_option maxRecDepth 10000 in
set_option maxHeartbeats 400000 in
theorem iIsWord (k : Int) (s : ByteArray) (w : World) (hs : s.size ≤ 1048576) :
    Calls Try.prog 47 #[.int .i64 k, .string s] w fun e w' => e = .returned (.bool (isWord k s)) ∧ w = w' := by
  by_cases h16 : (s.size : Int) ≤ 16
  · cases hk : inR k 1 3
    · have HK := Lib.hid hk; clear hk
      go_enter Try.func47, Try.ntmps47
      go_wp2_with (go_at_call 63; refine (isLetters _ _).mono ?_; rintro e w' ⟨rfl, rfl⟩; rw [HK.out])
      go_ret
      exact ⟨ret_bool (by unfold isWord; rw [HK.out]; simp), rfl⟩
    · have HK := Lib.hid hk; clear hk
      go_enter Try.func47, Try.ntmps47
      go_wp2_with (first | (go_at_call 63; refine (isLetters _ _).mono ?_; rintro e w' ⟨rfl, rfl⟩; rw [HK.out]) | (go_at_call 84; refine (areLetters _ _ _ hs).mono ?_; rintro e w' ⟨rfl, rfl⟩))
      go_ret
      exact ⟨ret_bool (by unfold isWord; rw [HK.out, decide_eq_true (by omega)]; simp), rfl⟩
  · have hd : decide ((s.size : Int) ≤ 16) = false := decide_eq_false h16
    have hn : decide (s.size ≤ 16) = false := decide_eq_false (by omega)
    have HN := Lib.hid hn; clear hn
    cases hk : inR k 1 3
    · have HK := Lib.hid hk; clear hk
      go_enter Try.func47, Try.ntmps47
      go_wp2_with (go_at_call 63; refine (isLetters _ _).mono ?_; rintro e w' ⟨rfl, rfl⟩; rw [HK.out])
      go_ret
      exact ⟨ret_bool (by unfold isWord; rw [HK.out]; simp), rfl⟩
    · have HK := Lib.hid hk; clear hk
      go_enter Try.func47, Try.ntmps47
      go_wp2_with (go_at_call 63; refine (isLetters _ _).mono ?_; rintro e w' ⟨rfl, rfl⟩; rw [HK.out])
      go_ret
      exact ⟨ret_bool (by unfold isWord; rw [HK.out, HN.out]; simp), rfl⟩
/-- Where a word is turned. -/
def turnAt (n : Int) (k : Nat) : Nat := (n % (k : Int)).toNat
def turnedAt (s : ByteArray) (k : Nat) : ByteArray := s.extract k s.size ++ s.extract 0 k
def turn (s : ByteArray) (n : Int) : ByteArray := if s.size = 0 ∨ isWord 3 s = false then ByteArray.empty else turnedAt s (turnAt n s.size)
theorem turn_empty {s : ByteArray} (h : s.size = 0) (n : Int) : turn s n = ByteArray.empty := if_pos (.inl h)
theorem turn_no {s : ByteArray} (h : isWord 3 s = false) (n : Int) : turn s n = ByteArray.empty := if_pos (.inr h)
theorem turn_yes {s : ByteArray} (h0 : ¬ s.size = 0) (h : isWord 3 s = true) (n : Int) : turn s n = turnedAt s (turnAt n s.size) := if_neg (by simp [h0, h])
theorem turnAt_lt (n : Int) {k : Nat} (h : ¬ k = 0) : turnAt n k < k := by
  unfold turnAt
  have h1 := Int.emod_lt_of_pos n (show (0 : Int) < k by omega)
  have h2 := Int.emod_nonneg n (show (k : Int) ≠ 0 by omega)
  omega
theorem turnAt_cast (n : Int) {k : Nat} (h : ¬ k = 0) : ((turnAt n k : Nat) : Int) = n % (k : Int) := by
  unfold turnAt
  have h2 := Int.emod_nonneg n (show (k : Int) ≠ 0 by omega)
  omega
theorem tmod_cases (n : Int) {k : Nat} (h : ¬ k = 0) : (n.tmod k = n % k ∨ (n.tmod k = n % k - k ∧ 0 < n % (k : Int))) := by
  have h2 := Int.emod_nonneg n (show (k : Int) ≠ 0 by omega)
  rw [Int.tmod_eq_emod]
  by_cases hc : 0 ≤ n ∨ (k : Int) ∣ n
  · rw [if_pos hc]; left; omega
  · rw [if_neg hc]
    right
    refine ⟨by simp, ?_⟩
    have h3 : n % (k : Int) ≠ 0 := fun e => hc (.inr (Int.dvd_of_emod_eq_zero e))
    omega
theorem tmod_bounds (n : Int) {k : Nat} (h : ¬ k = 0) : -(k : Int) < n.tmod k ∧ n.tmod k < k := by
  have h1 := Int.emod_lt_of_pos n (show (0 : Int) < k by omega)
  have h2 := Int.emod_nonneg n (show (k : Int) ≠ 0 by omega)
  rcases tmod_cases n h with h3 | h3 <;> omega
theorem tmod_neg (n : Int) {k : Nat} (h : ¬ k = 0) (hn : n.tmod k < 0) : n.tmod k + k = (turnAt n k : Nat) := by
  rw [turnAt_cast n h]
  have h2 := Int.emod_nonneg n (show (k : Int) ≠ 0 by omega)
  rcases tmod_cases n h with h3 | h3 <;> omega
theorem tmod_pos (n : Int) {k : Nat} (h : ¬ k = 0) (hn : 0 ≤ n.tmod k) : n.tmod k = (turnAt n k : Nat) := by
  rw [turnAt_cast n h]
  have h1 := Int.emod_lt_of_pos n (show (0 : Int) < k by omega)
  rcases tmod_cases n h with h3 | h3 <;> omega
theorem tmod_both (n : Int) {k : Nat} (h : ¬ k = 0) : (n.tmod k + k) % (k : Int) = (turnAt n k : Nat) := by
  rw [turnAt_cast n h, Int.add_emod_right]
  have h1 := Int.emod_lt_of_pos n (show (0 : Int) < k by omega)
  have h2 := Int.emod_nonneg n (show (k : Int) ≠ 0 by omega)
  rcases tmod_cases n h with h3 | ⟨h3, _⟩
  · rw [h3, Int.emod_eq_of_lt h2 h1]
  · rw [h3, Int.sub_emod_right, Int.emod_eq_of_lt h2 h1]
theorem size_zero {s : ByteArray} (h : s.size = 0) : s = ByteArray.empty := by
  cases s with | mk d => simp [ByteArray.size] at h; subst h; rfl
theorem notEmpty {s : ByteArray} (h0 : ¬ s.size = 0) : s.toList.isEmpty = false := by
  rw [ByteArray.toList_eq]
  cases hl : s.data.toList with
  | nil => exact absurd (by have := bts_length s; unfold bts at this; rw [hl] at this; exact this.symm) h0
  | cons a l => rfl
set_option maxRecDepth 10000 in
set_option maxHeartbeats 400000 in
theorem sTurnWord (s : ByteArray) (n : Int) (w : World) (hs : s.size ≤ 1048576) :
    Calls Try.prog 43 #[.string s, .int .i64 n] w fun e w' => e = .returned (.string (turn s n)) ∧ Drawn w w' := by
  by_cases h0 : s.size = 0
  · obtain rfl := size_zero h0
    clear h0
    go_enter Try.func43, Try.ntmps43
    go_wp2
    go_ret
    exact ⟨ret_str (turn_empty rfl n).symm, Drawn.refl _⟩
  · have he := notEmpty h0
    cases hw : isWord 3 s
    · have HW := Lib.hid hw; clear hw
      go_enter Try.func43, Try.ntmps43
      go_wp2_with (go_at_call 48; refine (sIsWord _ _ _ hs).mono ?_; rintro e w' ⟨rfl, rfl⟩; rw [HW.out])
      go_ret
      exact ⟨ret_str (turn_no HW.out n).symm, Drawn.refl _⟩
    · have HW := Lib.hid hw; clear hw
      have HY := Lib.hid (turn_yes h0 HW.out n)
      have hlt := turnAt_lt n h0
      have tb := tmod_bounds n h0
      by_cases hn : n.tmod s.size < 0
      · have e1 := tmod_neg n h0 hn
        generalize turnAt n s.size = k at *
        go_enter Try.func43, Try.ntmps43
        go_wp2_with (go_at_call 48; refine (sIsWord _ _ _ hs).mono ?_; rintro e w' ⟨rfl, rfl⟩; rw [HW.out])
        go_quiet (fail)
        go_wp2
        go_ret
        exact ⟨ret_str (by rw [HY.out]; rfl), Drawn.one _ _⟩
      · have e1 := tmod_pos n h0 (by omega)
        have hk := turnAt_lt n h0
        generalize turnAt n s.size = k at *
        go_enter Try.func43, Try.ntmps43
        go_wp2_with (go_at_call 48; refine (sIsWord _ _ _ hs).mono ?_; rintro e w' ⟨rfl, rfl⟩; rw [HW.out])
        go_quiet (fail)
        go_wp2
        go_ret
        exact ⟨ret_str (by rw [HY.out]; rfl), Drawn.one _ _⟩

end Go.Proofs.Ytidfnhoeaofgeaa
