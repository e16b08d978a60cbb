/- Contracts of ReachOf, the program's and the reference's. No statement is proved here. -/
import Derived.Test.YtkohadoicebojaaGreatDoorMatD
import Derived.BigRegion
import Derived.Deep.RegionWith
namespace Go.Proofs.YtkohadoicebojaaGreatDoor
open Go.RowKit Go.Deep
set_option maxRecDepth 10000 in
set_option maxHeartbeats 400000 in
theorem izeros (r : Nat) (w : World) (hr : r ≤ 100) :
    Calls Tryz.prog 102 #[.int .i64 r] w fun e w' => ∃ v, e = .returned v ∧ OwnMat 62 3 w.heap.size w' v (tabF r r zeroF) ∧ Below w.heap.size w w' := by
  have hmk := fun w => run_make_row' (P := Tryz.prog) 62 3 (.int .i64 0) 8 Tryz.underlying62 Tryz.infoInt rfl .i64 .i64 r (by omega) (by omega) w
  go_enter Tryz.func102, Tryz.ntmps102
  go_wp2
  go_loopw [3, 6] (fun v i wr => ∃ j : Nat, j ≤ r ∧ i = .int .i64 j ∧ OwnMat 62 3 w.heap.size wr v (tabF j r zeroF) ∧ Below w.heap.size w wr) (fun _ i _ => r - (intOf i).toNat)
  case atStart => exact ⟨0, Nat.zero_le _, rfl, OwnMat.empty _ _ _, (Below.refl _ _).alloc (Nat.le_refl _) _⟩
  case round =>
    obtain ⟨j, hj, rfl, ho, hb⟩ := hrel
    by_cases hlt : j < r
    · have hz := Own.zeros 3 wr r (by omega)
      have hH := ho.toH.keep (below_alloc wr (.cells (madeCells #[.int .i64 0] r) 3))
      have hs := hb.size
      have HL := Lib.hid (tabF_length j r zeroF)
      go_wp2_with (at_builtin; refine appM 24 62 3 Tryz.underlying24 Tryz.infoInts (by decide) hH hz hs (by simp) (by rw [HL.out]; omega) rfl _ _ rfl rfl rfl (by simp) ?_)
      intro v' w1 ho1 hg _
      go_wp2
      go_roundw
      case rel => exact ⟨j + 1, by omega, by go_num, by rw [tabF_succ]; exact ho1, (hb.alloc hs _).trans (grow_below hg (fun k hk => (ho.own k hk).1) (Nat.le_refl _) (by simp; omega))⟩
      case measure => simp [intOf]; omega
    · have e : j = r := by omega
      subst e
      go_wp2
      go_ret
      exact ⟨_, rfl, ho, hb⟩
/-- 1 where there is an arc. -/
def bit (x : Int) : Int := if 0 < x then 1 else 0
def bit0 (m : List (List Int)) : Nat → Nat → Int := fun i j => bit (ent m i j)
def mn (y z : Int) : Int := if z < y then z else y
def stp (x y z : Int) : Int := if x < mn y z then mn y z else x
/-- One number of the table of reaches, at stage k. -/
def wAt (f : Nat → Nat → Int) (k i j : Nat) : Nat → Nat → Int := fun a b => if a = i ∧ b = j then stp (f i j) (f i k) (f k j) else f a b
def wRow (f : Nat → Nat → Int) (k i : Nat) : Nat → Nat → Nat → Int
  | 0 => f
  | j + 1 => wAt (wRow f k i j) k i j
def wTab (n : Nat) (f : Nat → Nat → Int) (k : Nat) : Nat → Nat → Nat → Int
  | 0 => f
  | i + 1 => wRow (wTab n f k i) k i n
def wAll (n : Nat) (f : Nat → Nat → Int) : Nat → Nat → Nat → Int
  | 0 => f
  | k + 1 => wTab n (wAll n f k) k n
def Bits (f : Nat → Nat → Int) : Prop := ∀ a b, f a b = 0 ∨ f a b = 1
theorem bit_bits (m : List (List Int)) : Bits (bit0 m) := fun a b => by unfold bit0 bit; split <;> simp
theorem stp_bits {x y z : Int} (hx : x = 0 ∨ x = 1) (hy : y = 0 ∨ y = 1) (hz : z = 0 ∨ z = 1) : stp x y z = 0 ∨ stp x y z = 1 := by
  rcases hx with rfl | rfl <;> rcases hy with rfl | rfl <;> rcases hz with rfl | rfl <;> decide
theorem wAt_bits {f : Nat → Nat → Int} (h : Bits f) (k i j : Nat) : Bits (wAt f k i j) := fun a b => by
  unfold wAt
  split
  · exact stp_bits (h _ _) (h _ _) (h _ _)
  · exact h _ _
theorem wRow_bits {f : Nat → Nat → Int} (h : Bits f) (k i : Nat) : ∀ j, Bits (wRow f k i j) := fun j => by
  induction j with
  | zero => exact h
  | succ j ih => exact wAt_bits ih k i j
theorem wTab_bits (n : Nat) {f : Nat → Nat → Int} (h : Bits f) (k : Nat) : ∀ i, Bits (wTab n f k i) := fun i => by
  induction i with
  | zero => exact h
  | succ i ih => exact wRow_bits ih k i n
theorem wAll_bits (n : Nat) {f : Nat → Nat → Int} (h : Bits f) : ∀ k, Bits (wAll n f k) := fun k => by
  induction k with
  | zero => exact h
  | succ k ih => exact wTab_bits n ih k n
theorem slice_inj1 {a : Option Addr} {g n c c' : Nat} (h : Value.slice a n c = .slice (some ⟨g, 0, none⟩) n c') : some ⟨g, 0, none⟩ = a ∧ c' = c := by
  simp only [Value.slice.injEq] at h; exact ⟨h.1.symm, h.2.2.symm⟩
theorem slice_inj {a b n c c' : Nat} (h : Value.slice (some ⟨a, 0, none⟩) n c = .slice (some ⟨b, 0, none⟩) n c') : a = b ∧ c = c' := by
  simp only [Value.slice.injEq, Option.some.injEq, Addr.mk.injEq] at h; exact ⟨h.1.1, h.2.2⟩
theorem wAt_set (f : Nat → Nat → Int) (n k i j : Nat) (hi : i < n) : setAt (tabF n n f) i j (stp (f i j) (f i k) (f k j)) = tabF n n (wAt f k i j) := setAt_tabF _ _ _ _ _ _ hi
def reachM (m : List (List Int)) : List (List Int) := if isMat m = true then tabF m.length m.length (wAll m.length (bit0 m) m.length) else []
theorem reachM_yes {m : List (List Int)} (h : isMat m = true) {n : Nat} (hn : m.length = n) : reachM m = tabF n n (wAll n (bit0 m) n) := by subst hn; exact if_pos h
theorem reachM_no {m : List (List Int)} (h : isMat m = false) : reachM m = [] := if_neg (by simp [h])
theorem reachM_size (m : List (List Int)) : (reachM m).length + total (reachM m) ≤ 4000000 := by
  cases h : isMat m
  · rw [reachM_no h]; decide
  · rw [reachM_yes h rfl]
    have h9 := (isMat_len h).2
    exact tabF_small _ _ _ (by omega) (by omega)
/-- The table of arcs, filled as far as row i, number j. -/
def bitF (m : List (List Int)) (i j : Nat) : Nat → Nat → Int := fun a b => if a < i ∨ (a = i ∧ b < j) then bit0 m a b else 0
theorem bitF_step (m : List (List Int)) (n i j : Nat) (hi : i < n) (x : Int) (hx : ent m i j = x) : setAt (tabF n n (bitF m i j)) i j (bit x) = tabF n n (bitF m i (j + 1)) := by
  rw [setAt_tabF _ _ _ _ _ _ hi]
  apply tabF_congr
  intro a b _ _
  unfold bitF
  by_cases e : a = i ∧ b = j
  · obtain ⟨rfl, rfl⟩ := e; rw [if_pos ⟨rfl, rfl⟩, if_pos (by omega)]; unfold bit0; rw [hx]
  · rw [if_neg e]
    by_cases e2 : a < i ∨ (a = i ∧ b < j)
    · rw [if_pos e2, if_pos (by omega)]
    · rw [if_neg e2, if_neg (by omega)]
theorem bitF_row (m : List (List Int)) (n i : Nat) : tabF n n (bitF m i n) = tabF n n (bitF m (i + 1) 0) := by
  apply tabF_congr
  intro a b _ hb
  unfold bitF
  by_cases e2 : a < i ∨ (a = i ∧ b < n)
  · rw [if_pos e2, if_pos (by omega)]
  · rw [if_neg e2, if_neg (by omega)]
theorem bitF_zero (m : List (List Int)) (n : Nat) : tabF n n (bitF m 0 0) = tabF n n zeroF := by
  apply tabF_congr
  intro a b _ _
  unfold bitF zeroF
  rw [if_neg (by omega)]
theorem bitF_all (m : List (List Int)) (n : Nat) : tabF n n (bitF m n 0) = tabF n n (bit0 m) := by
  apply tabF_congr
  intro a b ha _
  unfold bitF
  rw [if_pos (by omega)]
theorem bit_mn {x : Int} (h : 0 ≤ x) : (if 1 < x then (1 : Int) else x) = bit x := by unfold bit; by_cases h1 : 1 < x <;> by_cases h2 : 0 < x <;> simp [h1, h2] <;> omega
end Go.Proofs.YtkohadoicebojaaGreatDoor
