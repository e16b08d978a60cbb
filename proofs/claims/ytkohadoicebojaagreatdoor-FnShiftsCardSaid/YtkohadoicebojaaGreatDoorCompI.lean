/- The components, as the implementation finds them: with marks on the vertices that were told. No statement is proved here. -/
import Derived.Test.YtkohadoicebojaaGreatDoorComp
namespace Go.Proofs.YtkohadoicebojaaGreatDoor
open Go.RowKit Go.Deep
def bls (n : Nat) (g : Nat → Bool) : List Value := (List.range n).map fun j => .bool (g j)
theorem bls_length (n : Nat) (g : Nat → Bool) : (bls n g).length = n := by simp [bls]
theorem bls_get {n j : Nat} {g : Nat → Bool} (h : j < n) : (bls n g)[j]? = some (.bool (g j)) := by simp [bls, h]
theorem bls_congr {n : Nat} {g g' : Nat → Bool} (h : ∀ j, j < n → g j = g' j) : bls n g = bls n g' := by
  unfold bls; exact List.map_congr_left fun j hj => by rw [h j (List.mem_range.1 hj)]
theorem bls_set (n j : Nat) (g : Nat → Bool) (y : Bool) : (bls n g).set j (.bool y) = bls n fun b => if b = j then y else g b := by
  apply List.ext_getElem?
  intro a
  rw [List.getElem?_set]
  by_cases ha : a < n
  · by_cases e : j = a
    · subst e; rw [if_pos rfl, if_pos (by rw [bls_length]; exact ha), bls_get ha, if_pos rfl]
    · rw [if_neg e, bls_get ha, bls_get ha, if_neg (fun h => e h.symm)]
  · rw [List.getElem?_eq_none (by rw [bls_length]; omega)]
    by_cases e : j = a
    · rw [if_pos e, if_neg (by rw [bls_length]; omega), List.getElem?_eq_none (by rw [bls_length]; omega)]
    · rw [if_neg e, List.getElem?_eq_none (by rw [bls_length]; omega)]
/-- The marks while vertex i's component is told, up to j. -/
def seenT (R : Nat → Nat → Int) (n i j : Nat) : Nat → Bool := fun b => seenF R n i b || (decide (b < j) && both R i b)
theorem seenT_zero (R : Nat → Nat → Int) (n i : Nat) : bls n (seenT R n i 0) = bls n (seenF R n i) := bls_congr fun j _ => by simp [seenT]
theorem seenT_all {R : Nat → Nat → Int} {n i : Nat} (h : isHd R n i = true) : bls n (seenT R n i n) = bls n (seenF R n (i + 1)) := bls_congr fun j hj => by simp [seenT, seenF, h, hj]
theorem seenT_yes {R : Nat → Nat → Int} {n i j : Nat} (h : both R i j = true) : (bls n (seenT R n i j)).set j (.bool true) = bls n (seenT R n i (j + 1)) := by
  rw [bls_set]
  refine bls_congr fun b _ => ?_
  by_cases e : b = j
  · subst e; simp [seenT, h]
  · rw [if_neg e]
    have : decide (b < j) = decide (b < j + 1) := by simp; omega
    simp only [seenT, this]
theorem seenT_no {R : Nat → Nat → Int} {n i j : Nat} (h : both R i j = false) : bls n (seenT R n i j) = bls n (seenT R n i (j + 1)) := bls_congr fun b _ => by
  by_cases e : b = j
  · subst e; simp [seenT, h]
  · have : decide (b < j) = decide (b < j + 1) := by simp; omega
    simp only [seenT, this]
theorem seenF_no {R : Nat → Nat → Int} {n i : Nat} (h : isHd R n i = false) : bls n (seenF R n i) = bls n (seenF R n (i + 1)) := bls_congr fun b _ => by simp [seenF, h]
theorem isHd_eq {R : Nat → Nat → Int} {n i : Nat} (hB : Bits R) (hT : Tr n n R) (hi : i < n) : isHd R n i = (!seenF R n i i && !decide (R i i = 0)) := by
  rw [Bool.eq_iff_iff, isHd_seen hB hT hi]
  simp
theorem Own.falses (e : TypeId) (w : World) (n : Nat) (hn : n ≤ 4000000) : Own e w.heap.size (w.alloc (.cells (madeCells #[.bool false] n) e)) (.slice (some ⟨w.heap.size, 0, none⟩) n n) (bls n fun _ => false) :=
  Own.of_rowIs (World.rowIs_made _ _ _ _) (Nat.le_refl _) (bls_length _ _) (by unfold maxLen; omega) (fun i hi => by rw [bls_get hi])
end Go.Proofs.YtkohadoicebojaaGreatDoor
