/- Contracts of the steps of a walk through a table and of greatest common divisors, the program's and the reference's. No statement is proved here. -/
import Derived.Test.YtkohadoicebojaaGreatDoorReachS
import Derived.StillTailTactics
namespace Go.Proofs.YtkohadoicebojaaGreatDoor
open Go.RowKit Go.Deep
def oneF (k : Nat) : Nat → Nat → Int := fun a b => if a = b ∧ a < k then 1 else 0
def unitF : Nat → Nat → Int := fun a b => if a = b then 1 else 0
theorem oneF_step (n k : Nat) (h : k < n) : setAt (tabF n n (oneF k)) k k 1 = tabF n n (oneF (k + 1)) := by
  rw [setAt_tabF _ _ _ _ _ _ h]
  apply tabF_congr
  intro a b _ _
  unfold oneF
  by_cases e : a = k ∧ b = k
  · rw [if_pos e, if_pos (by omega)]
  · rw [if_neg e]
    by_cases e2 : a = b ∧ a < k
    · rw [if_pos e2, if_pos (by omega)]
    · rw [if_neg e2, if_neg (by omega)]
theorem oneF_zero (n : Nat) : tabF n n (oneF 0) = tabF n n zeroF := by
  apply tabF_congr; intro a b _ _; unfold oneF zeroF; rw [if_neg (by omega)]
theorem oneF_all (n : Nat) : tabF n n (oneF n) = tabF n n unitF := by
  apply tabF_congr; intro a b ha _; unfold oneF unitF
  by_cases e : a = b
  · rw [if_pos ⟨e, ha⟩, if_pos e]
  · rw [if_neg (fun h => e h.1), if_neg e]
theorem unitF_bits : Bits unitF := fun a b => by unfold unitF; split <;> simp
set_option maxRecDepth 10000 in
set_option maxHeartbeats 400000 in
theorem sOne (n : Nat) (w : World) (hn : n ≤ 100) :
    Calls Tryz.prog 60 #[.int .i64 n] w fun e w' => ∃ v, e = .returned v ∧ OwnMat 62 3 w.heap.size w' v (tabF n n unitF) ∧ Below w.heap.size w w' := by
  go_enter Tryz.func60, Tryz.ntmps60
  go_wp2_with (go_at_call 100; refine (sZero n n _ hn hn).mono ?_; rintro e w1 ⟨v1, rfl, ho1, hb1⟩; obtain ⟨av, cv, hv⟩ := ho1.form; rw [tabF_length] at hv; subst hv)
  go_loopw [4] (fun i wr => ∃ k : Nat, k ≤ n ∧ i = .int .i64 k ∧ OwnMat 62 3 w.heap.size wr (.slice av n cv) (tabF n n (oneF k)) ∧ Below w.heap.size w wr) (fun i _ => n - (intOf i).toNat)
  case atStart => exact ⟨0, Nat.zero_le _, rfl, by rw [oneF_zero]; exact ho1, hb1⟩
  case round =>
    obtain ⟨k, hk, rfl, ho, hb⟩ := hrel
    by_cases hlt : k < n
    · obtain ⟨g, cg, gj, cj, hv, hg1, hg2, hgf, hgB, HST⟩ := ho.at2 (by decide) (tabF_get hlt) (rowF_get hlt)
      rw [tabF_length] at *
      rw [rowF_length] at hg1
      obtain ⟨rfl, rfl⟩ := slice_inj1 hv
      clear ho hv
      go_wp2
      go_roundw
      case rel => exact ⟨k + 1, by omega, by go_num, by rw [← oneF_step n k hlt]; exact HST.out 1, hb.setCell hgB _⟩
      case measure => simp [intOf]; omega
    · have e : k = n := by omega
      subst e
      rw [oneF_all] at ho
      go_wp2
      go_ret
      exact ⟨_, rfl, ho, hb⟩
set_option maxRecDepth 10000 in
set_option maxHeartbeats 400000 in
theorem iunit (n : Nat) (w : World) (hn : n ≤ 100) :
    Calls Tryz.prog 58 #[.int .i64 n] w fun e w' => ∃ v, e = .returned v ∧ OwnMat 62 3 w.heap.size w' v (tabF n n unitF) ∧ Below w.heap.size w w' := by
  go_enter Tryz.func58, Tryz.ntmps58
  go_wp2_with (go_at_call 102; refine (izeros n _ hn).mono ?_; rintro e w1 ⟨v1, rfl, ho1, hb1⟩; obtain ⟨av, cv, hv⟩ := ho1.form; rw [tabF_length] at hv; subst hv)
  go_loopw [9] (fun i wr => ∃ k : Nat, k ≤ n ∧ i = .int .i64 k ∧ OwnMat 62 3 w.heap.size wr (.slice av n cv) (tabF n n (oneF k)) ∧ Below w.heap.size w wr) (fun i _ => n - (intOf i).toNat)
  case atStart => exact ⟨0, Nat.zero_le _, rfl, by rw [oneF_zero]; exact ho1, hb1⟩
  case round =>
    obtain ⟨k, hk, rfl, ho, hb⟩ := hrel
    by_cases hlt : k < n
    · obtain ⟨g, cg, gj, cj, hv, hg1, hg2, hgf, hgB, HST⟩ := ho.at2 (by decide) (tabF_get hlt) (rowF_get hlt)
      rw [tabF_length] at *
      rw [rowF_length] at hg1
      obtain ⟨rfl, rfl⟩ := slice_inj1 hv
      clear ho hv
      go_wp2
      go_roundw
      case rel => exact ⟨k + 1, by omega, by go_num, by rw [← oneF_step n k hlt]; exact HST.out 1, hb.setCell hgB _⟩
      case measure => simp [intOf]; omega
    · have e : k = n := by omega
      subst e
      rw [oneF_all] at ho
      go_wp2
      go_ret
      exact ⟨_, rfl, ho, hb⟩
/-- Whether there is a step from p to q by way of the first k. -/
def acc (f : Nat → Nat → Int) (m : List (List Int)) (p q : Nat) : Nat → Int
  | 0 => 0
  | k + 1 => stp (acc f m p q k) (f p k) (bit (ent m k q))
theorem bit_01 (x : Int) : bit x = 0 ∨ bit x = 1 := by unfold bit; split <;> simp
theorem acc_bits {f : Nat → Nat → Int} (hf : Bits f) (m : List (List Int)) (p q : Nat) : ∀ k, acc f m p q k = 0 ∨ acc f m p q k = 1 := fun k => by
  induction k with
  | zero => exact .inl rfl
  | succ k ih => exact stp_bits ih (hf _ _) (bit_01 _)
def stF (m : List (List Int)) (n : Nat) (f : Nat → Nat → Int) : Nat → Nat → Int := fun p q => acc f m p q n
theorem stF_bits {f : Nat → Nat → Int} (hf : Bits f) (m : List (List Int)) (n : Nat) : Bits (stF m n f) := fun p q => acc_bits hf m p q n
/-- A table that is being filled, number by number, each in n steps. -/
def gF (D : Nat → Nat → Nat → Int) (n i j k : Nat) : Nat → Nat → Int := fun p q => if p < i ∨ (p = i ∧ q < j) then D p q n else if p = i ∧ q = j then D p q k else 0
theorem gF_step (D : Nat → Nat → Nat → Int) (n i j k : Nat) (hi : i < n) : setAt (tabF n n (gF D n i j k)) i j (D i j (k + 1)) = tabF n n (gF D n i j (k + 1)) := by
  rw [setAt_tabF _ _ _ _ _ _ hi]
  apply tabF_congr
  intro p q _ _
  unfold gF
  by_cases e : p = i ∧ q = j
  · obtain ⟨rfl, rfl⟩ := e
    rw [if_pos ⟨rfl, rfl⟩, if_neg (by omega), if_pos ⟨rfl, rfl⟩]
  · rw [if_neg e, if_neg e, if_neg e]
theorem gF_col {D : Nat → Nat → Nat → Int} (hD : ∀ p q, D p q 0 = 0) (n i j : Nat) : tabF n n (gF D n i j n) = tabF n n (gF D n i (j + 1) 0) := by
  apply tabF_congr
  intro p q _ _
  unfold gF
  by_cases e : p < i ∨ (p = i ∧ q < j)
  · rw [if_pos e, if_pos (by omega)]
  · rw [if_neg e]
    by_cases e2 : p = i ∧ q = j
    · rw [if_pos e2, if_pos (by omega)]
    · rw [if_neg e2, if_neg (by omega)]
      split
      · rw [hD]
      · rfl
theorem gF_row {D : Nat → Nat → Nat → Int} (hD : ∀ p q, D p q 0 = 0) (n i : Nat) : tabF n n (gF D n i n 0) = tabF n n (gF D n (i + 1) 0 0) := by
  apply tabF_congr
  intro p q _ hq
  unfold gF
  by_cases e : p < i ∨ (p = i ∧ q < n)
  · rw [if_pos e, if_pos (by omega)]
  · rw [if_neg e, if_neg (by omega), if_neg (by omega)]
    split
    · rw [hD]
    · rfl
theorem gF_zero {D : Nat → Nat → Nat → Int} (hD : ∀ p q, D p q 0 = 0) (n : Nat) : tabF n n (gF D n 0 0 0) = tabF n n zeroF := by
  apply tabF_congr
  intro p q _ _
  unfold gF zeroF
  rw [if_neg (by omega)]
  split
  · rw [hD]
  · rfl
theorem gF_all (D : Nat → Nat → Nat → Int) (n : Nat) : tabF n n (gF D n n 0 0) = tabF n n (fun p q => D p q n) := by
  apply tabF_congr
  intro p q hp _
  unfold gF
  rw [if_pos (by omega)]
theorem gF_at (D : Nat → Nat → Nat → Int) (n i j k : Nat) : gF D n i j k i j = D i j k := by
  unfold gF; rw [if_neg (by omega), if_pos ⟨rfl, rfl⟩]
end Go.Proofs.YtkohadoicebojaaGreatDoor
