/- Contracts of IsPrimitive and the reference's PrimitiveStep. No statement is proved here. -/
import Derived.Test.YtenjakgahniijaaPt
import Derived.Deep.LoopGhost
import Derived.BigQuiet
import Derived.Deep.QuietTactic
namespace Go.Proofs.Ytenjakgahniijaa
open Go.RowKit Go.Deep
theorem beq_dec (a b : Int) : (a == b) = decide (a = b) := by
  by_cases h : a = b
  · subst h; simp
  · rw [decide_eq_false h]; exact beq_eq_false_iff_ne.2 h
theorem isPrim_no {m : List (List Int)} (h : irr m = false) : isPrim m = false := by unfold isPrim; rw [h]; rfl
theorem isPrim_yes {m : List (List Int)} (h : irr m = true) : isPrim m = decide (periodOf m = 1) := by unfold isPrim; rw [h]; rfl
set_option maxRecDepth 10000 in
set_option maxHeartbeats 400000 in
theorem sIsPrimitive (v : Value) (m : List (List Int)) (w : World) (h : Mat w v m) :
    Calls Try.prog 77 #[v] w fun e w' => e = .returned (.bool (isPrim m)) ∧ Below w.heap.size w w' := by
  go_enter Try.func77, Try.ntmps77
  go_wp2_with fail
  refine (sIsIrreducible _ m _ h).mono ?_
  rintro e w1 ⟨rfl, hb⟩
  cases hi : irr m
  · have HO := Lib.hid (isPrim_no hi); clear hi
    go_wp2
    go_ret
    exact ⟨ret_bool HO.out.symm, hb⟩
  · have HO := Lib.hid (isPrim_yes hi); clear hi
    go_wp2_with fail
    refine (sPeriodOf _ m _ (h.keep hb)).mono ?_
    rintro e w2 ⟨rfl, hb2⟩
    go_wp2
    go_ret
    exact ⟨ret_bool (by rw [HO.out]; exact beq_dec _ _), hb.trans (hb2.mono hb.size)⟩
set_option maxRecDepth 10000 in
set_option maxHeartbeats 400000 in
theorem iIsPrimitive (v : Value) (m : List (List Int)) (w : World) (h : Mat w v m) :
    Calls Try.prog 42 #[v] w fun e w' => e = .returned (.bool (isPrim m)) ∧ Below w.heap.size w w' := by
  go_enter Try.func42, Try.ntmps42
  go_wp2_with fail
  refine (iIsIrreducible _ m _ h).mono ?_
  rintro e w1 ⟨rfl, hb⟩
  cases hi : irr m
  · have HO := Lib.hid (isPrim_no hi); clear hi
    go_wp2
    go_ret
    exact ⟨ret_bool HO.out.symm, hb⟩
  · have HO := Lib.hid (isPrim_yes hi); clear hi
    go_wp2_with fail
    refine (iPeriodOf _ m _ (h.keep hb)).mono ?_
    rintro e w2 ⟨rfl, hb2⟩
    go_wp2
    go_ret
    exact ⟨ret_bool (by rw [HO.out]; exact beq_dec _ _), hb.trans (hb2.mono hb.size)⟩
theorem fullB_length {f : Nat → Nat → Int} {n : Nat} : fullB f n = (List.range n).all fun i => (List.range n).all fun j => decide (f i j = 1) := rfl
/-- The rows before row i are ones. -/
def rowsB (f : Nat → Nat → Int) (n i : Nat) : Bool := (List.range i).all fun a => (List.range n).all fun b => decide (f a b = 1)
def colsB (f : Nat → Nat → Int) (n i j : Nat) : Bool := rowsB f n i && (List.range j).all fun b => decide (f i b = 1)
theorem colsB_zero (f : Nat → Nat → Int) (n i : Nat) : colsB f n i 0 = rowsB f n i := by simp [colsB]
theorem colsB_all (f : Nat → Nat → Int) (n i : Nat) : colsB f n i n = rowsB f n (i + 1) := by simp [colsB, rowsB, List.range_succ]
theorem colsB_succ (f : Nat → Nat → Int) (n i j : Nat) : colsB f n i (j + 1) = (colsB f n i j && decide (f i j = 1)) := by simp [colsB, List.range_succ, Bool.and_assoc]
theorem colsB_f {f : Nat → Nat → Int} {n i j : Nat} (h : colsB f n i j = false) : colsB f n i (j + 1) = false := by rw [colsB_succ, h, Bool.false_and]
theorem colsB_t {f : Nat → Nat → Int} {n i j : Nat} (h : colsB f n i j = true) {x : Int} (hx : f i j = x) : colsB f n i (j + 1) = (x == 1) := by rw [colsB_succ, h, hx, Bool.true_and, beq_dec]
theorem rowsB_zero (f : Nat → Nat → Int) (n : Nat) : rowsB f n 0 = true := rfl
theorem rowsB_all (f : Nat → Nat → Int) (n : Nat) : rowsB f n n = fullB f n := rfl
theorem step_last {m : List (List Int)} {n L t : Nat} (h : IsStep m L) (hl : m.length = n) (h1 : 1 ≤ t) (h2 : t ≤ L) (hf : fullB (hv m n t) n = true) : t = L := by
  subst hl
  rcases Nat.lt_or_ge t L with h3 | h3
  · exact absurd hf (h.2 t h1 h3)
  · omega
theorem step_more {m : List (List Int)} {n L t : Nat} (h : IsStep m L) (hl : m.length = n) (h2 : t ≤ L) (hf : fullB (hv m n t) n = false) : t < L := by
  subst hl
  rcases Nat.lt_or_ge t L with h3 | h3
  · exact h3
  · have e : t = L := by omega
    subst e; rw [h.1.2] at hf; cases hf
end Go.Proofs.Ytenjakgahniijaa
