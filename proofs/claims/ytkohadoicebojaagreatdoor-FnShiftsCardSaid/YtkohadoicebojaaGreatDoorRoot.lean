/- RootOf, the program's (by the library's contract) and the reference's. No statement is proved here. -/
import Derived.Test.YtkohadoicebojaaGreatDoorWordA
import Derived.Test.YtkohadoicebojaaGreatDoorShelf
import Derived.Lib.Repeat
import Derived.Deep.RegionHeld3
namespace Go.Proofs.YtkohadoicebojaaGreatDoor
open Go.RowKit Go.Deep
def rep (s : ByteArray) (c : Nat) : ByteArray := str (Lib.repeatL (bts s) c)
theorem rep_size (s : ByteArray) (c : Nat) : (rep s c).size = c * s.size := by unfold rep; rw [str_size, Lib.repeatL_length, bts_length]
theorem rep_zero (s : ByteArray) : rep s 0 = ByteArray.empty := rfl
theorem rep_succ (s : ByteArray) (c : Nat) : rep s (c + 1) = rep s c ++ s := by
  unfold rep
  rw [Lib.repeatL_add, Lib.repeatL_one, str_append, str_bts]
set_option maxRecDepth 10000 in
set_option maxHeartbeats 400000 in
theorem sL2Times (s : ByteArray) (c : Nat) (w : World) (hs : s.size ≤ 1048576) (hc : c ≤ 1048576) :
    Calls Tryz.prog 113 #[.string s, .int .i64 c] w fun e w' => e = .returned (.string (rep s c)) ∧ w = w' := by
  go_enter Tryz.func113, Tryz.ntmps113
  go_wp2
  go_loop [5, 6] (fun o i => ∃ (j : Nat) (x : ByteArray), j ≤ c ∧ i = .int .i64 j ∧ o = .string x ∧ Hid (x = rep s j)) (fun _ i => c - (intOf i).toNat)
  case atStart => exact ⟨0, ByteArray.empty, Nat.zero_le _, rfl, rfl, Lib.hid (rep_zero s).symm⟩
  case round =>
    obtain ⟨j, x, hj, rfl, rfl, HX⟩ := hrel
    have hxs : x.size ≤ 1099511627776 := by
      have h1 := rep_size s j
      rw [← HX.out] at h1
      have h2 : j * s.size ≤ 1048576 * 1048576 := Nat.mul_le_mul (by omega) hs
      omega
    by_cases hlt : j < c
    · go_wp2
      go_round
      case rel => exact ⟨j + 1, x ++ s, by omega, by go_num, rfl, Lib.hid (by rw [rep_succ, HX.out])⟩
      case measure => simp [intOf]; omega
    · have e : j = c := by omega
      subst e
      go_wp2
      go_ret
      exact ⟨ret_str HX.out, rfl⟩
theorem sL2TimesB (s : ByteArray) (c : Nat) (r : ByteArray) (w : World) (hs : s.size ≤ 1048576) (hc : c ≤ 1048576) (h : rep s c = r) :
    Calls Tryz.prog 113 #[.string s, .int .i64 c] w fun e w' => e = .returned (.string r) ∧ w' = w := by
  subst h; exact (sL2Times s c w hs hc).mono fun _ _ h => ⟨h.1, h.2.symm⟩
theorem toList_inj' {x y : ByteArray} (h : x.toList = y.toList) : x = y := by
  rw [ByteArray.toList_eq, ByteArray.toList_eq] at h
  exact bts_inj h
def rootC (s : ByteArray) (n : Nat) : Bool := decide (s.size % n = 0) && decide (rep (s.extract 0 n) (s.size / n) = s)
/-- n is the length of the shortest word of which s is a repetition. -/
structure IsRoot (s : ByteArray) (n : Nat) : Prop where
  one : 1 ≤ n
  le : n ≤ s.size
  ok : rootC s n = true
  least : ∀ i, 1 ≤ i → i < n → rootC s i = false
theorem rootC_no {s : ByteArray} {j q : Nat} {r : ByteArray} (hq : s.size / j = q) (hr : rep (s.extract 0 j) q = r) (h : ¬ r = s) : rootC s j = false := by
  unfold rootC; rw [hq, hr, decide_eq_false h, Bool.and_false]
theorem rootC_yes {s : ByteArray} {j q : Nat} {r : ByteArray} (hm : s.size % j = 0) (hq : s.size / j = q) (hr : rep (s.extract 0 j) q = r) (h : r = s) : rootC s j = true := by
  unfold rootC; rw [hq, hr, decide_eq_true h, decide_eq_true hm]; rfl
theorem root_lt {s : ByteArray} {n j : Nat} (hn : IsRoot s n) (hj : j ≤ n) (h : rootC s j = false) : j < n := by
  rcases Nat.lt_or_ge j n with h2 | h2
  · exact h2
  · have e : j = n := by omega
    subst e; rw [hn.ok] at h; cases h
theorem root_eq {s : ByteArray} {n j : Nat} (hn : IsRoot s n) (h1 : 1 ≤ j) (hj : j ≤ n) (h : rootC s j = true) : j = n := by
  rcases Nat.lt_or_ge j n with h2 | h2
  · have := hn.least j h1 h2; rw [h] at this; cases this
  · omega
theorem root_all {s : ByteArray} (h : ¬ s.size = 0) : rootC s s.size = true := by
  unfold rootC
  rw [Nat.mod_self, Nat.div_self (by omega), decide_eq_true rfl, Bool.true_and]
  refine decide_eq_true ?_
  have : s.extract 0 s.size = s := by
    apply bts_inj
    rw [bts_extract, List.take_of_length_le (by rw [bts_length]; exact Nat.le_refl _)]; rfl
  rw [this]
  unfold rep
  rw [Lib.repeatL_one, str_bts]
theorem root_some {s : ByteArray} (h : ¬ s.size = 0) : ∃ n, IsRoot s n := by
  have key : ∀ k, 1 ≤ k → k ≤ s.size → rootC s k = true → ∃ n, IsRoot s n := by
    intro k
    induction k using Nat.strongRecOn with
    | ind k ih =>
      intro h1 h2 h3
      by_cases hx : ∃ i, 1 ≤ i ∧ i < k ∧ rootC s i = true
      · obtain ⟨i, a, b, c⟩ := hx
        exact ih i b a (by omega) c
      · refine ⟨k, h1, h2, h3, fun i a b => ?_⟩
        cases e : rootC s i
        · rfl
        · exact absurd ⟨i, a, b, e⟩ hx
  exact key s.size (by omega) (Nat.le_refl _) (root_all h)
noncomputable def rootN (s : ByteArray) : Nat := open Classical in if h : ∃ n, IsRoot s n then Classical.choose h else 0
theorem rootN_is {s : ByteArray} {n : Nat} (h : IsRoot s n) : rootN s = n := by
  have hx : ∃ n, IsRoot s n := ⟨n, h⟩
  unfold rootN
  rw [dif_pos hx]
  have h2 := Classical.choose_spec hx
  rcases Nat.lt_trichotomy (Classical.choose hx) n with h3 | h3 | h3
  · have := h.least _ h2.one h3; rw [h2.ok] at this; cases this
  · exact h3
  · have := h2.least _ h.one h3; rw [h.ok] at this; cases this
noncomputable def rootS (s : ByteArray) : ByteArray := if s.size = 0 ∨ isWord 3 s = false then ByteArray.empty else s.extract 0 (rootN s)
noncomputable def rootK (s : ByteArray) : Int := if s.size = 0 ∨ isWord 3 s = false then 0 else ((s.size / rootN s : Nat) : Int)
theorem rootS_no {s : ByteArray} (h : s.size = 0 ∨ isWord 3 s = false) : rootS s = ByteArray.empty := if_pos h
theorem rootK_no {s : ByteArray} (h : s.size = 0 ∨ isWord 3 s = false) : rootK s = 0 := if_pos h
theorem rootS_yes {s : ByteArray} {n : Nat} (h0 : ¬ s.size = 0) (h : isWord 3 s = true) (hn : IsRoot s n) : rootS s = s.extract 0 n := by unfold rootS; rw [if_neg (by simp [h0, h]), rootN_is hn]
theorem rootK_yes {s : ByteArray} {n : Nat} (h0 : ¬ s.size = 0) (h : isWord 3 s = true) (hn : IsRoot s n) : rootK s = ((s.size / n : Nat) : Int) := by unfold rootK; rw [if_neg (by simp [h0, h]), rootN_is hn]
theorem ret_si {a b : ByteArray} {x y : Int} (h : a = b) (k : x = y) : Ending.returned (.tuple #[.string a, .int .i64 x]) = .returned (.tuple #[.string b, .int .i64 y]) := by rw [h, k]
end Go.Proofs.YtkohadoicebojaaGreatDoor
