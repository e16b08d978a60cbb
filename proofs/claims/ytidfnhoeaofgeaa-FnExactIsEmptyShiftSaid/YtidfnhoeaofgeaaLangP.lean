/- The words of two letters that go on without end in both directions, and the language of a shift: plain facts. No statement is proved here. -/
import Derived.Test.YtidfnhoeaofgeaaAvW
import Derived.Test.YtidfnhoeaofgeaaLively
namespace Go.Proofs.Ytidfnhoeaofgeaa
open Go.RowKit Go.Deep
section
variable {α : Type}
/-- One round of elimination: what has a next and a former one in the list. -/
def hasN (R : α → α → Bool) (l : List α) (u : α) : Bool := l.any (R u)
def hasF (R : α → α → Bool) (l : List α) (u : α) : Bool := l.any fun v => R v u
def stays (R : α → α → Bool) (l : List α) (u : α) : Bool := hasN R l u && hasF R l u
def stpW (R : α → α → Bool) (l : List α) : List α := l.filter (stays R l)
def stpN (R : α → α → Bool) (l : List α) : Nat → List α
  | 0 => l
  | t + 1 => stpW R (stpN R l t)
def core (R : α → α → Bool) (l : List α) : List α := stpN R l l.length
theorem stp_le (R : α → α → Bool) (l : List α) : (stpW R l).length ≤ l.length := List.length_filter_le _ _
theorem stp_fix {R : α → α → Bool} {l : List α} (h : (stpW R l).length = l.length) : stpW R l = l := List.filter_eq_self.2 (List.length_filter_eq_length_iff.1 h)
theorem stpN_fix {R : α → α → Bool} {l : List α} {t : Nat} (h : stpW R (stpN R l t) = stpN R l t) : ∀ j, stpN R l (t + j) = stpN R l t := by
  intro j
  induction j with
  | zero => rfl
  | succ j ih => rw [← Nat.add_assoc]; show stpW R (stpN R l (t + j)) = _; rw [ih, h]
theorem stpN_small (R : α → α → Bool) (l : List α) : ∀ t, stpW R (stpN R l t) = stpN R l t ∨ (stpN R l t).length + t ≤ l.length := by
  intro t
  induction t with
  | zero => exact .inr (Nat.le_refl _)
  | succ t ih =>
    rcases ih with ih | ih
    · left; show stpW R (stpW R (stpN R l t)) = stpW R (stpN R l t); rw [ih, ih]
    · by_cases h : (stpW R (stpN R l t)).length = (stpN R l t).length
      · left; show stpW R (stpW R (stpN R l t)) = stpW R (stpN R l t); rw [stp_fix h, stp_fix h]
      · right
        have := stp_le R (stpN R l t)
        show (stpW R (stpN R l t)).length + (t + 1) ≤ _
        omega
theorem core_fix (R : α → α → Bool) (l : List α) : stpW R (core R l) = core R l := by
  rcases stpN_small R l l.length with h | h
  · exact h
  · have : stpN R l l.length = [] := List.length_eq_zero_iff.1 (by omega)
    unfold core; rw [this]; rfl
theorem core_of {R : α → α → Bool} {l : List α} {t : Nat} (h : (stpW R (stpN R l t)).length = (stpN R l t).length) : stpN R l t = core R l := by
  have h1 := stp_fix h
  have h2 := core_fix R l
  rcases Nat.le_total t l.length with hl | hl
  · have := stpN_fix h1 (l.length - t)
    rw [show t + (l.length - t) = l.length by omega] at this
    exact this.symm
  · have := stpN_fix (t := l.length) h2 (t - l.length)
    rw [show l.length + (t - l.length) = t by omega] at this
    exact this
theorem stpN_sub (R : α → α → Bool) (l : List α) : ∀ t, ∀ x ∈ stpN R l t, x ∈ l := by
  intro t
  induction t with
  | zero => intro x hx; exact hx
  | succ t ih => intro x hx; exact ih x (List.mem_filter.1 hx).1
theorem stpN_len (R : α → α → Bool) (l : List α) : ∀ t, (stpN R l t).length ≤ l.length := by
  intro t
  induction t with
  | zero => exact Nat.le_refl _
  | succ t ih => exact Nat.le_trans (stp_le R _) ih
theorem core_stays {R : α → α → Bool} {l : List α} {x : α} (h : x ∈ core R l) : stays R (core R l) x = true := by
  rw [← core_fix R l] at h
  exact (List.mem_filter.1 h).2
/-- The elements whose places are marked. -/
def pick (z : α) (L : Nat → Bool) (l : List α) : Nat → List α
  | 0 => []
  | j + 1 => pick z L l j ++ (if L j = true then [l.getD j z] else [])
def idxE (z : α) (R : α → α → Bool) (l : List α) (i j : Nat) : Bool := R (l.getD i z) (l.getD j z)
theorem pick_any (z : α) (L : Nat → Bool) (l : List α) (R : α → α → Bool) (i : Nat) : ∀ n, (pick z L l n).any (R (l.getD i z)) = frTo (idxE z R l) L i n := by
  intro n
  induction n with
  | zero => rfl
  | succ n ih =>
    rw [pick, frTo, List.any_append, ih]
    cases L n <;> simp [idxE]
theorem pick_any' (z : α) (L : Nat → Bool) (l : List α) (R : α → α → Bool) (i : Nat) : ∀ n, (pick z L l n).any (fun v => R v (l.getD i z)) = toTo (idxE z R l) L i n := by
  intro n
  induction n with
  | zero => rfl
  | succ n ih =>
    rw [pick, toTo, List.any_append, ih]
    cases L n <;> simp [idxE]
theorem pick_filter (z : α) (L : Nat → Bool) (l : List α) (q : α → Bool) : ∀ n, (pick z L l n).filter q = pick z (fun i => L i && q (l.getD i z)) l n := by
  intro n
  induction n with
  | zero => rfl
  | succ n ih =>
    rw [pick, pick, List.filter_append, ih]
    cases L n
    · simp
    · generalize l.getD n z = y
      cases hq : q y <;> simp [hq]
theorem pick_congr (z : α) (l : List α) {L L' : Nat → Bool} : ∀ n, (∀ i, i < n → L i = L' i) → pick z L l n = pick z L' l n := by
  intro n
  induction n with
  | zero => intro _; rfl
  | succ n ih => intro h; rw [pick, pick, ih fun i hi => h i (by omega), h n (by omega)]
theorem pick_take (z : α) (l : List α) : ∀ n, n ≤ l.length → pick z (fun _ => true) l n = l.take n := by
  intro n
  induction n with
  | zero => intro _; simp [pick]
  | succ n ih =>
    intro h
    rw [pick, ih (by omega), List.take_add_one, List.getElem?_eq_getElem (show n < l.length by omega)]
    simp [List.getD, List.getElem?_eq_getElem (show n < l.length by omega)]
theorem pick_rnd (z : α) (R : α → α → Bool) (l : List α) : ∀ t, pick z (rnd (idxE z R l) l.length t) l l.length = stpN R l t := by
  intro t
  induction t with
  | zero => show pick z (fun _ => true) l l.length = l; rw [pick_take z l _ (Nat.le_refl _), List.take_length]
  | succ t ih =>
    show _ = stpW R (stpN R l t)
    rw [← ih]
    unfold stpW
    rw [pick_filter]
    refine pick_congr z l _ fun i _ => ?_
    show (rnd (idxE z R l) l.length t i && good (idxE z R l) l.length (rnd (idxE z R l) l.length t) i) = _
    unfold good stays hasN hasF
    rw [pick_any, pick_any']
theorem pick_core {z : α} {R : α → α → Bool} {l : List α} {n : Nat} (hl : l.length = n) : pick z (lv (idxE z R l) n) l n = core R l := by subst hl; exact pick_rnd z R l l.length
theorem pick_len (z : α) (L : Nat → Bool) (l : List α) : ∀ n, (pick z L l n).length ≤ n := by
  intro n
  induction n with
  | zero => exact Nat.le_refl _
  | succ n ih => rw [pick, List.length_append]; split <;> simp <;> omega
end
theorem occ_iff {s p : ByteArray} : occ s p = true ↔ bts p <:+: bts s := by
  unfold occ Lib.contains bts
  rcases Lib.index_spec s.data.toList p.data.toList with ⟨h1, h2⟩ | ⟨i, h1, h2, h3, _⟩
  · rw [h1]
    constructor
    · intro h; simp at h
    · rintro ⟨a, b, h⟩
      have h4 := h2 a.length (by rw [← h]; simp)
      unfold Lib.occAt at h4
      rw [← h, List.append_assoc, List.drop_left, ← Bool.not_eq_true, List.isPrefixOf_iff_prefix] at h4
      exact absurd (List.prefix_append _ _) h4
  · rw [h1]
    constructor
    · intro _
      unfold Lib.occAt at h3
      rw [List.isPrefixOf_iff_prefix] at h3
      exact h3.isInfix.trans (List.drop_suffix _ _).isInfix
    · intro _; exact decide_eq_true (by omega)
theorem occ_trans {s p q : ByteArray} (h : occ s p = true) (h2 : occ p q = true) : occ s q = true := occ_iff.2 ((occ_iff.1 h2).trans (occ_iff.1 h))
/-- The word v may follow the word u. -/
def fol (f : List ByteArray) (u v : ByteArray) : Bool := decide ((bts u).getD 1 0 = (bts v).getD 0 0) && avo f (u ++ v.extract 1 v.size)
def pairs0 (k : Nat) (f : List ByteArray) : List ByteArray := (words k 2).filter (avo f)
/-- The words of two letters that go on without end. -/
def pairs (k : Nat) (f : List ByteArray) : List ByteArray := core (fol f) (pairs0 k f)
theorem pairs0_in {k : Nat} {f : List ByteArray} {x : ByteArray} (h : x ∈ pairs0 k f) : x.size = 2 ∧ avo f x = true :=
  ⟨words_size k 2 x (List.mem_filter.1 h).1, (List.mem_filter.1 h).2⟩
theorem pairs_in {k : Nat} {f : List ByteArray} {x : ByteArray} (h : x ∈ pairs k f) : x.size = 2 ∧ avo f x = true := pairs0_in (stpN_sub _ _ _ x h)
theorem pairs0_len {k : Nat} {f : List ByteArray} (hk : k ≤ 3) : (pairs0 k f).length ≤ 9 := by
  have h1 := List.length_filter_le (avo f) (words k 2)
  have h2 : (words k 2).length ≤ 9 := by
    rw [words_length]
    have h1 : kp k 2 ≤ 3 ^ 2 := Nat.pow_le_pow_left hk 2
    have h3 : (3 : Nat) ^ 2 = 9 := rfl
    omega
  unfold pairs0; omega
theorem pairs_len {k : Nat} {f : List ByteArray} (hk : k ≤ 3) : (pairs k f).length ≤ 9 := Nat.le_trans (stpN_len _ _ _) (pairs0_len hk)
def hasText (l : List ByteArray) (x : ByteArray) : Bool := l.any (fun y => decide (y = x))
/-- Whether a word lies in the language. -/
def inL (k : Nat) (f : List ByteArray) (x : ByteArray) : Bool :=
  avo f x && (if 2 ≤ x.size then hasText (pairs k f) (x.extract 0 2) && hasText (pairs k f) (x.extract (x.size - 2) x.size) else (pairs k f).any fun u => occ u x)
theorem avo_part {f : List ByteArray} {s p : ByteArray} (h : avo f s = true) (hp : occ s p = true) : avo f p = true := by
  unfold avo at h ⊢
  rw [List.all_eq_true] at h ⊢
  intro x hx
  have h1 := h x hx
  cases ho : occ p x
  · exact avo1_yes ho
  · rw [avo1_no (occ_trans hp ho)] at h1; cases h1
theorem inL_small {k : Nat} {f : List ByteArray} {x : ByteArray} (h : x.size < 2) : inL k f x = (pairs k f).any fun u => occ u x := by
  unfold inL
  rw [if_neg (by omega)]
  cases ha : (pairs k f).any fun u => occ u x
  · rw [Bool.and_false]
  · rw [Bool.and_true]
    obtain ⟨u, hu, ho⟩ := List.any_eq_true.1 ha
    exact avo_part (pairs_in hu).2 ho
theorem inL_no {k : Nat} {f : List ByteArray} {x : ByteArray} (h : avo f x = false) : inL k f x = false := by unfold inL; rw [h, Bool.false_and]
theorem inL_big {k : Nat} {f : List ByteArray} {x : ByteArray} (h : 2 ≤ x.size) (ha : avo f x = true) : inL k f x = (hasText (pairs k f) (x.extract 0 2) && hasText (pairs k f) (x.extract (x.size - 2) x.size)) := by unfold inL; rw [ha, if_pos h, Bool.true_and]
theorem inL_none {k : Nat} {f : List ByteArray} {x : ByteArray} (h : pairs k f = []) : inL k f x = false := by unfold inL; rw [h]; simp [hasText]
def inLang (k : Int) (f : List ByteArray) (x : ByteArray) : Bool := isShift k f && (isWord k x && inL k.toNat f x)
def langL (k : Int) (f : List ByteArray) (n : Int) : List ByteArray := if langB k n f = true then (words k.toNat n.toNat).filter (inL k.toNat f) else []
def isEmptyS (k : Int) (f : List ByteArray) : Bool := isShift k f && decide ((pairs k.toNat f).length = 0)
end Go.Proofs.Ytidfnhoeaofgeaa
