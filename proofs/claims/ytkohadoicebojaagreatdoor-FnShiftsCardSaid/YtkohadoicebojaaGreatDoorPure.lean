/- Plain facts on lists and numbers, with no program in sight. No statement is proved here. -/
import Derived.Below
import Derived.Lib.Hide
namespace Go.Proofs.YtkohadoicebojaaGreatDoor
open Go.RowKit

/-- Equality as a Bool, closed to simp. -/
def same {α : Type} [DecidableEq α] (a b : α) : Bool := decide (a = b)
theorem same_eq {α : Type} [DecidableEq α] {a b : α} (h : a = b) : same a b = true := by simp [same, h]
theorem same_ne {α : Type} [DecidableEq α] {a b : α} (h : a ≠ b) : same a b = false := by simp [same, h]
theorem same_refl {α : Type} [DecidableEq α] (a : α) : same a a = true := same_eq rfl
theorem of_same {α : Type} [DecidableEq α] {a b : α} (h : same a b = true) : a = b := by simpa [same] using h

theorem take_eq_succ {α : Type} {l l' : List α} {j : Nat} {x x' : α} (ht : l.take j = l'.take j) (h : l[j]? = some x) (h' : l'[j]? = some x') (e : x = x') : l.take (j + 1) = l'.take (j + 1) := by
  rw [List.take_add_one, List.take_add_one, ht, h, h', e]
theorem eq_of_take_all {α : Type} {l l' : List α} {n j : Nat} (hl : l.length = n) (hl' : l'.length = n) (ht : l.take j = l'.take j) (hj : ¬ j < n) : l = l' := by
  rw [List.take_of_length_le (by omega), List.take_of_length_le (by omega)] at ht
  exact ht
theorem ne_of_get {α : Type} {l l' : List α} {j : Nat} {x x' : α} (h : l[j]? = some x) (h' : l'[j]? = some x') (e : x ≠ x') : l ≠ l' := by
  intro he; rw [he, h'] at h; exact e (Option.some.inj h).symm
theorem ne_of_len {α : Type} {l l' : List α} {n n' : Nat} (h : l.length = n) (h' : l'.length = n') (e : ¬ n = n') : l ≠ l' := by
  intro he; rw [he, h'] at h; exact e h.symm

theorem ret_int {k : IntKind} {a b : Int} (h : a = b) : Ending.returned (.int k a) = .returned (.int k b) := by rw [h]
theorem ret_bool {a b : Bool} (h : a = b) : Ending.returned (.bool a) = .returned (.bool b) := by rw [h]
theorem ret_val {a b : Value} (h : a = b) : Ending.returned a = .returned b := by rw [h]

/-- A size is told: the answer is at most 'left'; if it is not below 0 then it and 'tot' make no more than 'left'. -/
def Sz (left : Int) (tot : Nat) (e : Ending) : Prop := ∃ r : Int, e = .returned (.int .i64 r) ∧ r ≤ left ∧ -1 ≤ r ∧ Hid (0 ≤ r → r + tot ≤ left)

theorem getD_of_get {α : Type} {l : List α} {j : Nat} {x d : α} (h : l[j]? = some x) : l.getD j d = x := by simp [List.getD, h]
theorem get_of_lt {α : Type} {l : List α} {j : Nat} {d : α} (h : j < l.length) : l[j]? = some (l.getD j d) := by simp [List.getD, List.getElem?_eq_getElem h]
/-- How many numbers a table holds. -/
def total (m : List (List Int)) : Nat := (m.map List.length).sum
theorem total_take_succ {m : List (List Int)} {j : Nat} {r : List Int} (h : m[j]? = some r) : total (m.take (j + 1)) = total (m.take j) + r.length := by
  rw [List.take_add_one, h]; simp [total]
theorem total_take_all {m : List (List Int)} {n j : Nat} (hl : m.length = n) (hj : ¬ j < n) : total (m.take j) = total m := by rw [List.take_of_length_le (by omega)]
theorem total_take_le (m : List (List Int)) (j : Nat) : total (m.take j) ≤ total m := by
  have h : total m = total (m.take j) + total (m.drop j) := by
    unfold total
    rw [← List.sum_append, ← List.map_append, List.take_append_drop]
  omega
theorem take_snoc {α : Type} {l : List α} {j : Nat} {x : α} (h : l[j]? = some x) : l.take (j + 1) = l.take j ++ [x] := by
  rw [List.take_add_one, h]; rfl
theorem len_le_total {m : List (List Int)} {j : Nat} {r : List Int} (h : m[j]? = some r) : r.length ≤ total m := by
  have h1 := total_take_succ h
  have h2 := total_take_le m (j + 1)
  omega
/-- a between b and c, as the reference's test. -/
def inR (a b c : Int) : Bool := decide (b ≤ a) && decide (a ≤ c)
theorem inR_iff {a b c : Int} : inR a b c = true ↔ b ≤ a ∧ a ≤ c := by simp [inR]
theorem inR_no {a b c : Int} : inR a b c = false ↔ ¬ (b ≤ a ∧ a ≤ c) := by
  cases h : inR a b c
  · have : ¬ (b ≤ a ∧ a ≤ c) := fun k => by rw [inR_iff.2 k] at h; cases h
    simp [this]
  · simp [inR_iff.1 h]
def numOk (x : Int) : Bool := inR x 0 1000000
def rowOk (n : Nat) (r : List Int) : Bool := decide (r.length = n) && r.all numOk
def isMat (m : List (List Int)) : Bool := inR m.length 1 9 && m.all (rowOk m.length)
theorem all_take_succ {α : Type} {l : List α} {j : Nat} {x : α} {f : α → Bool} (h : l[j]? = some x) (ht : (l.take j).all f = true) (hx : f x = true) : (l.take (j + 1)).all f = true := by
  rw [take_snoc h]; simp [hx] at *; exact ht
theorem all_take_all {α : Type} {l : List α} {j n : Nat} {f : α → Bool} (hl : l.length = n) (hj : ¬ j < n) (ht : (l.take j).all f = true) : l.all f = true := by
  rwa [List.take_of_length_le (by omega)] at ht
theorem all_false {α : Type} {l : List α} {j : Nat} {x : α} {f : α → Bool} (h : l[j]? = some x) (hx : f x = false) : l.all f = false := by
  rw [List.all_eq_false]; exact ⟨x, List.mem_of_getElem? h, by simp [hx]⟩
theorem rowOk_len {n : Nat} {r : List Int} {k : Nat} (h : r.length = k) (e : ¬ k = n) : rowOk n r = false := by simp [rowOk, h, e]
theorem rowOk_num {n j : Nat} {r : List Int} {x : Int} (h : r[j]? = some x) (e : numOk x = false) : rowOk n r = false := by simp only [rowOk, all_false h e, Bool.and_false]
theorem rowOk_yes {n : Nat} {r : List Int} (h : r.length = n) (e : r.all numOk = true) : rowOk n r = true := by simp only [rowOk, h, e, decide_true, Bool.and_true]
theorem isMat_no {m : List (List Int)} {i n : Nat} {r : List Int} (hl : m.length = n) (h : m[i]? = some r) (e : rowOk n r = false) : isMat m = false := by
  unfold isMat; rw [hl, all_false h e, Bool.and_false]
theorem isMat_end {m : List (List Int)} {n : Nat} (hl : m.length = n) (e : m.all (rowOk n) = true) : isMat m = inR n 1 9 := by
  unfold isMat; rw [hl, e, Bool.and_true]
theorem isMat_len {m : List (List Int)} (h : isMat m = true) : 1 ≤ m.length ∧ m.length ≤ 9 := by
  unfold isMat at h; simp only [Bool.and_eq_true] at h; have := inR_iff.1 h.1; omega
theorem isMat_row {m : List (List Int)} {i : Nat} {r : List Int} (h : isMat m = true) (hr : m[i]? = some r) : r.length = m.length := by
  unfold isMat at h; simp only [Bool.and_eq_true, List.all_eq_true] at h
  have := h.2 r (List.mem_of_getElem? hr); unfold rowOk at this; simp only [Bool.and_eq_true, decide_eq_true_eq] at this; exact this.1
theorem isMat_num {m : List (List Int)} {i j : Nat} {r : List Int} {x : Int} (h : isMat m = true) (hr : m[i]? = some r) (hx : r[j]? = some x) : 0 ≤ x ∧ x ≤ 1000000 := by
  unfold isMat at h; simp only [Bool.and_eq_true, List.all_eq_true] at h
  have := h.2 r (List.mem_of_getElem? hr); unfold rowOk at this; simp only [Bool.and_eq_true, List.all_eq_true] at this
  exact inR_iff.1 (this.2 x (List.mem_of_getElem? hx))
theorem of_not_t {b : Bool} (h : (!b) = true) : b = false := by simpa using h
theorem of_not_f {b : Bool} (h : (!b) = false) : b = true := by simpa using h
theorem numOk_no {x : Int} (h : x < 0 ∨ 1000000 < x) : numOk x = false := inR_no.2 (by omega)
theorem numOk_yes {x : Int} (h : 0 ≤ x) (h2 : x ≤ 1000000) : numOk x = true := inR_iff.2 ⟨h, h2⟩
theorem isMat_size {m : List (List Int)} {n : Nat} (hl : m.length = n) (h : n < 1 ∨ 9 < n) : isMat m = false := by
  unfold isMat; rw [hl, inR_no.2 (by omega), Bool.false_and]
theorem isMat_yes {m : List (List Int)} {n : Nat} (hl : m.length = n) (h : 1 ≤ n) (h2 : n ≤ 9) (e : m.all (rowOk n) = true) : isMat m = true := by
  rw [isMat_end hl e]; exact inR_iff.2 ⟨by omega, by omega⟩
/-- Sums of numbers, of a list and of a table. -/
def sumI (l : List Int) : Int := l.sum
def sumM (m : List (List Int)) : Int := sumI (m.map sumI)
theorem sumI_succ {l : List Int} {j : Nat} {x : Int} (h : l[j]? = some x) : sumI (l.take (j + 1)) = sumI (l.take j) + x := by
  rw [take_snoc h]; simp [sumI]
theorem sumI_all {l : List Int} {n j : Nat} (hl : l.length = n) (hj : ¬ j < n) : sumI (l.take j) = sumI l := by rw [List.take_of_length_le (by omega)]
theorem sumM_succ {m : List (List Int)} {j : Nat} {r : List Int} (h : m[j]? = some r) : sumM (m.take (j + 1)) = sumM (m.take j) + sumI r := by
  unfold sumM; rw [take_snoc h]; simp [sumI]
theorem sumM_all {m : List (List Int)} {n j : Nat} (hl : m.length = n) (hj : ¬ j < n) : sumM (m.take j) = sumM m := by rw [List.take_of_length_le (by omega)]
theorem sumI_bd (c : Int) : ∀ (l : List Int), (∀ x ∈ l, 0 ≤ x ∧ x ≤ c) → 0 ≤ sumI l ∧ sumI l ≤ c * l.length := by
  intro l
  induction l with
  | nil => intro _; simp [sumI]
  | cons a l ih =>
    intro h
    have h1 := h a (by simp)
    have h2 := ih (fun x hx => h x (by simp [hx]))
    have e : sumI (a :: l) = a + sumI l := by simp [sumI]
    have e2 : c * ((a :: l).length : Int) = c * l.length + c := by simp [Int.mul_add]
    rw [e, e2]; omega
theorem isMat_mem {m : List (List Int)} (h : isMat m = true) {r : List Int} (hr : r ∈ m) : r.length = m.length ∧ ∀ x ∈ r, 0 ≤ x ∧ x ≤ 1000000 := by
  obtain ⟨i, hi, rfl⟩ := List.mem_iff_getElem.1 hr
  have h1 := List.getElem?_eq_getElem hi
  refine ⟨isMat_row h h1, fun x hx => ?_⟩
  obtain ⟨j, hj, rfl⟩ := List.mem_iff_getElem.1 hx
  exact isMat_num h h1 (List.getElem?_eq_getElem hj)
theorem sumI_take_bd {m : List (List Int)} (h : isMat m = true) {i : Nat} {r : List Int} (hr : m[i]? = some r) (j : Nat) : 0 ≤ sumI (r.take j) ∧ sumI (r.take j) ≤ 9000000 := by
  have h1 := isMat_mem h (List.mem_of_getElem? hr)
  have h2 := sumI_bd 1000000 (r.take j) (fun x hx => h1.2 x (List.mem_of_mem_take hx))
  have h3 := isMat_len h
  have h4 : (r.take j).length ≤ r.length := by rw [List.length_take]; omega
  have h5 := h1.1
  omega
theorem sumI_row_bd {m : List (List Int)} (h : isMat m = true) {i : Nat} {r : List Int} (hr : m[i]? = some r) : 0 ≤ sumI r ∧ sumI r ≤ 9000000 := by
  have := sumI_take_bd h hr r.length
  rwa [List.take_of_length_le (Nat.le_refl _)] at this
theorem sumM_take_bd {m : List (List Int)} (h : isMat m = true) (j : Nat) : 0 ≤ sumM (m.take j) ∧ sumM (m.take j) ≤ 81000000 := by
  have h2 := sumI_bd 9000000 ((m.take j).map sumI) (fun x hx => by
    obtain ⟨r, hr, rfl⟩ := List.mem_map.1 hx
    obtain ⟨i, hi, rfl⟩ := List.mem_iff_getElem.1 (List.mem_of_mem_take hr)
    exact sumI_row_bd h (List.getElem?_eq_getElem hi))
  have h3 := isMat_len h
  have h4 : ((m.take j).map sumI).length ≤ m.length := by rw [List.length_map, List.length_take]; omega
  unfold sumM
  omega
def sumOf (m : List (List Int)) : Int := if isMat m = true then sumM m else -1
theorem sumOf_yes {m : List (List Int)} (h : isMat m = true) : sumOf m = sumM m := if_pos h
theorem sumOf_no {m : List (List Int)} (h : isMat m = false) : sumOf m = -1 := if_neg (by simp [h])
def isGr (m : List (List Int)) : Bool := isMat m && decide (sumOf m ≤ 60)
end Go.Proofs.YtkohadoicebojaaGreatDoor
