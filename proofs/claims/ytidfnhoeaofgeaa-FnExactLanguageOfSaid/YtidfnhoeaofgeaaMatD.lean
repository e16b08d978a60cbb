/- Contracts of tables of zeros and of TurnMatrix, the program's and the reference's. No statement is proved here. -/
import Derived.Test.YtidfnhoeaofgeaaMatA
import Derived.Test.YtidfnhoeaofgeaaTab
namespace Go.Proofs.Ytidfnhoeaofgeaa
open Go.RowKit Go.Deep
def zeroF : Nat → Nat → Int := fun _ _ => 0
def turnM (m : List (List Int)) : List (List Int) := if isMat m = true then tabF m.length m.length (fun i j => ent m j i) else []
theorem turnM_yes {m : List (List Int)} (h : isMat m = true) {n : Nat} (hn : m.length = n) : turnM m = tabF n n (fun i j => ent m j i) := by subst hn; exact if_pos h
theorem turnM_no {m : List (List Int)} (h : isMat m = false) : turnM m = [] := if_neg (by simp [h])
theorem turnM_size (m : List (List Int)) : (turnM m).length + total (turnM m) ≤ 4000000 := by
  cases h : isMat m
  · rw [turnM_no h]; decide
  · rw [turnM_yes h rfl]
    have h9 := (isMat_len h).2
    exact tabF_small _ _ _ (by omega) (by omega)
/-- The turned table, filled as far as row i (the old table's), number j. -/
def turnF (m : List (List Int)) (i j : Nat) : Nat → Nat → Int := fun a b => if b < i ∨ (b = i ∧ a < j) then ent m b a else 0
theorem turnF_step (m : List (List Int)) (n i j : Nat) (hj : j < n) (x : Int) (hx : ent m i j = x) : setAt (tabF n n (turnF m i j)) j i x = tabF n n (turnF m i (j + 1)) := by
  rw [setAt_tabF _ _ _ _ _ _ hj]
  apply tabF_congr
  intro a b ha hb
  unfold turnF
  by_cases e : a = j ∧ b = i
  · obtain ⟨rfl, rfl⟩ := e; rw [if_pos ⟨rfl, rfl⟩, if_pos (.inr ⟨rfl, by omega⟩), hx]
  · rw [if_neg e]
    by_cases e2 : b < i ∨ (b = i ∧ a < j)
    · rw [if_pos e2, if_pos (by omega)]
    · rw [if_neg e2, if_neg (by omega)]
theorem turnF_row (m : List (List Int)) (n i : Nat) : tabF n n (turnF m i n) = tabF n n (turnF m (i + 1) 0) := by
  apply tabF_congr
  intro a b ha hb
  unfold turnF
  by_cases e2 : b < i ∨ (b = i ∧ a < n)
  · rw [if_pos e2, if_pos (by omega)]
  · rw [if_neg e2, if_neg (by omega)]
theorem turnF_zero (m : List (List Int)) (n : Nat) : tabF n n (turnF m 0 0) = tabF n n zeroF := by
  apply tabF_congr
  intro a b ha hb
  unfold turnF zeroF
  rw [if_neg (by omega)]
theorem turnF_all (m : List (List Int)) (n : Nat) : tabF n n (turnF m n 0) = tabF n n (fun i j => ent m j i) := by
  apply tabF_congr
  intro a b ha hb
  unfold turnF
  rw [if_pos (by omega)]
end Go.Proofs.Ytidfnhoeaofgeaa
