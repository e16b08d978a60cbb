/- Contracts of the small functions on words, the program's and the reference's. No statement is proved here. -/
import Derived.Test.YtloicjojhfpihaaDoorRows
import Derived.Test.YtloicjojhfpihaaDoorStr
import Derived.WalkKit
import Derived.WalkSpells
import Derived.WalkLawsBesides
import Derived.BigQuiet
import Derived.Deep.QuietTactic
namespace Go.Proofs.YtloicjojhfpihaaDoor
open Go.RowKit Go.Deep

def letOk (k : Int) (c : UInt8) : Bool := decide (97 ≤ (c.toNat : Int)) && decide ((c.toNat : Int) - 97 < k)
def letters (k : Int) (s : ByteArray) : Bool := (bts s).all (letOk k)
def isWord (k : Int) (s : ByteArray) : Bool := letters k s && (inR k 1 3 && decide (s.size ≤ 16))
theorem letOk_lo {k : Int} {c : UInt8} (h : (c.toNat : Int) < 97) : letOk k c = false := by simp [letOk]; omega
theorem letOk_hi {k : Int} {c : UInt8} (h : k ≤ (c.toNat : Int) - 97) : letOk k c = false := by simp [letOk]; omega
theorem letOk_yes {k : Int} {c : UInt8} (h : ¬ (c.toNat : Int) < 97) (h2 : (c.toNat : Int) - 97 < k) : letOk k c = true := by simp [letOk]; omega
theorem isWord_no {k : Int} {s : ByteArray} (h : letters k s = false) : isWord k s = false := by unfold isWord; rw [h, Bool.false_and]
theorem isWord_end {k : Int} {s : ByteArray} (h : letters k s = true) : isWord k s = (inR k 1 3 && decide (s.size ≤ 16)) := by unfold isWord; rw [h, Bool.true_and]
theorem isWord_size {k : Int} {s : ByteArray} (h : isWord k s = true) : s.size ≤ 16 := by
  unfold isWord at h; simp only [Bool.and_eq_true, decide_eq_true_eq] at h; exact h.2.2
theorem isWord_k {k : Int} {s : ByteArray} (h : isWord k s = true) : 1 ≤ k ∧ k ≤ 3 := by
  unfold isWord at h; simp only [Bool.and_eq_true, decide_eq_true_eq] at h; exact inR_iff.1 h.2.1
theorem isWord_letters {k : Int} {s : ByteArray} (h : isWord k s = true) : letters k s = true := by
  unfold isWord at h; simp only [Bool.and_eq_true, decide_eq_true_eq] at h; exact h.1
theorem wIn (a b c : Int) (w : World) :
    Calls Tryd.prog 32 #[.int .i64 a, .int .i64 b, .int .i64 c] w fun e w' => e = .returned (.bool (inR a b c)) ∧ w = w' := by
  go_enter Tryd.func32, Tryd.ntmps32
  go_wp2
  all_goals (go_ret; exact ⟨ret_bool (by unfold inR; simp [*]; try omega), rfl⟩)
theorem wIn' (a b c : Int) (w : World) :
    Calls Tryd.prog 32 #[.int .i64 a, .int .i64 b, .int .i64 c] w fun e w' => e = .returned (.bool (inR a b c)) ∧ w = w' := by
  go_enter Tryd.func32, Tryd.ntmps32
  go_wp2
  all_goals (go_ret; exact ⟨ret_bool (by unfold inR; simp [*]; try omega), rfl⟩)
set_option maxRecDepth 10000 in
set_option maxHeartbeats 400000 in
theorem sIsWord (k : Int) (s : ByteArray) (w : World) (hs : s.size ≤ 1048576) :
    Calls Tryd.prog 31 #[.int .i64 k, .string s] w fun e w' => e = .returned (.bool (isWord k s)) ∧ w = w' := by
  go_enter Tryd.func31, Tryd.ntmps31
  go_wp2
  go_loop [5] (fun i => ∃ j : Nat, j ≤ s.size ∧ i = .int .i64 j ∧ Hid (((bts s).take j).all (letOk k) = true)) (fun i => s.size - (intOf i).toNat)
  case atStart => exact ⟨0, Nat.zero_le _, rfl, Lib.hid rfl⟩
  case round =>
    obtain ⟨j, hj, rfl, HT⟩ := hrel
    by_cases hlt : j < s.size
    · obtain ⟨c, hc, HC, hb⟩ := byte_at hlt
      by_cases h1 : (c.toNat : Int) < 97
      · go_wp2
        go_ret
        exact ⟨ret_bool (isWord_no (all_false HC.out (letOk_lo (by omega)))).symm, rfl⟩
      by_cases h2 : (c.toNat : Int) - 97 < k
      · go_wp2
        go_round
        case rel => exact ⟨j + 1, by omega, by go_num, Lib.hid (all_take_succ HC.out HT.out (letOk_yes (by omega) (by omega)))⟩
        case measure => simp [intOf]; omega
      · go_wp2
        go_ret
        exact ⟨ret_bool (isWord_no (all_false HC.out (letOk_hi (by omega)))).symm, rfl⟩
    · have HA := Lib.hid (isWord_end (k := k) (all_take_all (bts_length s) hlt HT.out))
      cases hk : inR k 1 3
      · have HK := Lib.hid hk; clear hk
        go_wp2_with (go_at_call 32; refine (wIn' _ _ _ _).mono ?_; rintro e w' ⟨rfl, rfl⟩; rw [HK.out])
        go_ret
        exact ⟨ret_bool (by rw [HA.out, HK.out]; rfl), rfl⟩
      · have HK := Lib.hid hk; clear hk
        go_wp2_with (go_at_call 32; refine (wIn' _ _ _ _).mono ?_; rintro e w' ⟨rfl, rfl⟩; rw [HK.out])
        go_ret
        exact ⟨ret_bool (by rw [HA.out, HK.out, Bool.true_and]; exact decide_eq_decide.2 (by omega)), rfl⟩
theorem isLetters (k : Int) (w : World) :
    Calls Tryd.prog 35 #[.int .i64 k] w fun e w' => e = .returned (.bool (inR k 1 3)) ∧ w = w' := by
  go_enter Tryd.func35, Tryd.ntmps35
  go_wp2
  all_goals (go_ret; exact ⟨ret_bool (by unfold inR; simp [*]; try omega), rfl⟩)
set_option maxRecDepth 10000 in
set_option maxHeartbeats 400000 in
theorem areLetters (k : Int) (s : ByteArray) (w : World) (hs : s.size ≤ 1048576) :
    Calls Tryd.prog 36 #[.int .i64 k, .string s] w fun e w' => e = .returned (.bool (letters k s)) ∧ w = w' := by
  go_enter Tryd.func36, Tryd.ntmps36
  go_wp2
  go_loop [8] (fun i => ∃ j : Nat, j ≤ s.size ∧ i = .int .i64 j ∧ Hid (((bts s).take j).all (letOk k) = true)) (fun i => s.size - (intOf i).toNat)
  case atStart => exact ⟨0, Nat.zero_le _, rfl, Lib.hid rfl⟩
  case round =>
    obtain ⟨j, hj, rfl, HT⟩ := hrel
    by_cases hlt : j < s.size
    · obtain ⟨c, hc, HC, hb⟩ := byte_at hlt
      by_cases h1 : (c.toNat : Int) < 97
      · go_wp2
        go_ret
        exact ⟨ret_bool (all_false HC.out (letOk_lo (by omega))).symm, rfl⟩
      by_cases h2 : (c.toNat : Int) - 97 < k
      · go_wp2
        go_round
        case rel => exact ⟨j + 1, by omega, by go_num, Lib.hid (all_take_succ HC.out HT.out (letOk_yes (by omega) (by omega)))⟩
        case measure => simp [intOf]; omega
      · go_wp2
        go_ret
        exact ⟨ret_bool (all_false HC.out (letOk_hi (by omega))).symm, rfl⟩
    · go_wp2
      go_ret
      exact ⟨ret_bool (all_take_all (bts_length s) hlt HT.out).symm, rfl⟩

end Go.Proofs.YtloicjojhfpihaaDoor
