/- Contracts of tables of zeros and of TurnMatrix, the program's and the reference's. No statement is proved here. -/
import Derived.Test.YtenjakgahniijaaMatA
import Derived.Test.YtenjakgahniijaaTab
namespace Go.Proofs.Ytenjakgahniijaa
open Go.RowKit Go.Deep
def zeroF : Nat → Nat → Int := fun _ _ => 0
set_option maxRecDepth 10000 in
set_option maxHeartbeats 400000 in
theorem sZero (r c : Nat) (w : World) (hr : r ≤ 100) (hc : c ≤ 100) :
    Calls Try.prog 83 #[.int .i64 r, .int .i64 c] w fun e w' => ∃ v, e = .returned v ∧ OwnMat 28 3 w.heap.size w' v (tabF r c zeroF) ∧ Below w.heap.size w w' := by
  have hmk := fun w => run_make_row' (P := Try.prog) 28 3 (.int .i64 0) 8 Try.underlying28 Try.infoInt rfl .i64 .i64 c (by omega) (by omega) w
  go_enter Try.func83, Try.ntmps83
  go_wp2
  go_loopw [5, 6] (fun v i wr => ∃ j : Nat, j ≤ r ∧ i = .int .i64 j ∧ OwnMat 28 3 w.heap.size wr v (tabF j c zeroF) ∧ Below w.heap.size w wr) (fun _ i _ => r - (intOf i).toNat)
  case atStart => exact ⟨0, Nat.zero_le _, rfl, OwnMat.empty _ _ _, (Below.refl _ _).alloc (Nat.le_refl _) _⟩
  case round =>
    obtain ⟨j, hj, rfl, ho, hb⟩ := hrel
    by_cases hlt : j < r
    · have hz := Own.zeros 3 wr c (by omega)
      have hH := ho.toH.keep (below_alloc wr (.cells (madeCells #[.int .i64 0] c) 3))
      have hs := hb.size
      have HL := Lib.hid (tabF_length j c zeroF)
      go_wp2_with (at_builtin; refine appM 24 28 3 Try.underlying24 Try.infoInts (by decide) hH hz hs (by simp) (by rw [HL.out]; omega) rfl _ _ rfl rfl rfl (by simp) ?_)
      intro v' w1 ho1 hg _
      go_wp2
      go_roundw
      case rel => exact ⟨j + 1, by omega, by go_num, by rw [tabF_succ]; exact ho1, (hb.alloc hs _).trans (grow_below hg (fun k hk => (ho.own k hk).1) (Nat.le_refl _) (by simp; omega))⟩
      case measure => simp [intOf]; omega
    · have e : j = r := by omega
      subst e
      go_wp2
      go_ret
      exact ⟨_, rfl, ho, hb⟩
def turnM (m : List (List Int)) : List (List Int) := if isMat m = true then tabF m.length m.length (fun i j => ent m j i) else []
theorem turnM_yes {m : List (List Int)} (h : isMat m = true) {n : Nat} (hn : m.length = n) : turnM m = tabF n n (fun i j => ent m j i) := by subst hn; exact if_pos h
theorem turnM_no {m : List (List Int)} (h : isMat m = false) : turnM m = [] := if_neg (by simp [h])
theorem turnM_size (m : List (List Int)) : (turnM m).length + total (turnM m) ≤ 4000000 := by
  cases h : isMat m
  · rw [turnM_no h]; decide
  · rw [turnM_yes h rfl]
    have h9 := (isMat_len h).2
    exact tabF_small _ _ _ (by omega) (by omega)
/-- The turned table, filled as far as row i (the old table's), number j. -/
def turnF (m : List (List Int)) (i j : Nat) : Nat → Nat → Int := fun a b => if b < i ∨ (b = i ∧ a < j) then ent m b a else 0
theorem turnF_step (m : List (List Int)) (n i j : Nat) (hj : j < n) (x : Int) (hx : ent m i j = x) : setAt (tabF n n (turnF m i j)) j i x = tabF n n (turnF m i (j + 1)) := by
  rw [setAt_tabF _ _ _ _ _ _ hj]
  apply tabF_congr
  intro a b ha hb
  unfold turnF
  by_cases e : a = j ∧ b = i
  · obtain ⟨rfl, rfl⟩ := e; rw [if_pos ⟨rfl, rfl⟩, if_pos (.inr ⟨rfl, by omega⟩), hx]
  · rw [if_neg e]
    by_cases e2 : b < i ∨ (b = i ∧ a < j)
    · rw [if_pos e2, if_pos (by omega)]
    · rw [if_neg e2, if_neg (by omega)]
theorem turnF_row (m : List (List Int)) (n i : Nat) : tabF n n (turnF m i n) = tabF n n (turnF m (i + 1) 0) := by
  apply tabF_congr
  intro a b ha hb
  unfold turnF
  by_cases e2 : b < i ∨ (b = i ∧ a < n)
  · rw [if_pos e2, if_pos (by omega)]
  · rw [if_neg e2, if_neg (by omega)]
theorem turnF_zero (m : List (List Int)) (n : Nat) : tabF n n (turnF m 0 0) = tabF n n zeroF := by
  apply tabF_congr
  intro a b ha hb
  unfold turnF zeroF
  rw [if_neg (by omega)]
theorem turnF_all (m : List (List Int)) (n : Nat) : tabF n n (turnF m n 0) = tabF n n (fun i j => ent m j i) := by
  apply tabF_congr
  intro a b ha hb
  unfold turnF
  rw [if_pos (by omega)]
end Go.Proofs.Ytenjakgahniijaa
