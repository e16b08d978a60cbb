/- The vertices that are left when those without arcs from or to others go: plain facts, and the specification's walk. No statement is proved here. -/
import Derived.Test.YtkohadoicebojaaGreatDoorCompI
import Derived.Deep.LoopGhost
namespace Go.Proofs.YtkohadoicebojaaGreatDoor
open Go.RowKit Go.Deep
def nz (m : List (List Int)) (i j : Nat) : Bool := decide (0 < ent m i j)
def frTo (e : Nat → Nat → Bool) (L : Nat → Bool) (i : Nat) : Nat → Bool
  | 0 => false
  | j + 1 => frTo e L i j || (L j && e i j)
def toTo (e : Nat → Nat → Bool) (L : Nat → Bool) (i : Nat) : Nat → Bool
  | 0 => false
  | j + 1 => toTo e L i j || (L j && e j i)
def good (e : Nat → Nat → Bool) (n : Nat) (L : Nat → Bool) (i : Nat) : Bool := frTo e L i n && toTo e L i n
def rnd (m : Nat → Nat → Bool) (n : Nat) : Nat → Nat → Bool
  | 0 => fun _ => true
  | t + 1 => fun i => rnd m n t i && good m n (rnd m n t) i
def lv (m : Nat → Nat → Bool) (n : Nat) : Nat → Bool := rnd m n n
def cnt (L : Nat → Bool) : Nat → Nat
  | 0 => 0
  | k + 1 => cnt L k + (if L k = true then 1 else 0)
theorem frTo_mono {m : Nat → Nat → Bool} {L L' : Nat → Bool} {i : Nat} : ∀ {n : Nat}, (∀ j, j < n → L j = true → L' j = true) → frTo m L i n = true → frTo m L' i n = true := by
  intro n
  induction n with
  | zero => intro _ h; exact h
  | succ n ih =>
    intro hs h
    simp only [frTo, Bool.or_eq_true, Bool.and_eq_true] at h ⊢
    rcases h with h | ⟨h, h2⟩
    · exact .inl (ih (fun j hj => hs j (by omega)) h)
    · exact .inr ⟨hs n (by omega) h, h2⟩
theorem toTo_mono {m : Nat → Nat → Bool} {L L' : Nat → Bool} {i : Nat} : ∀ {n : Nat}, (∀ j, j < n → L j = true → L' j = true) → toTo m L i n = true → toTo m L' i n = true := by
  intro n
  induction n with
  | zero => intro _ h; exact h
  | succ n ih =>
    intro hs h
    simp only [toTo, Bool.or_eq_true, Bool.and_eq_true] at h ⊢
    rcases h with h | ⟨h, h2⟩
    · exact .inl (ih (fun j hj => hs j (by omega)) h)
    · exact .inr ⟨hs n (by omega) h, h2⟩
theorem good_mono {m : Nat → Nat → Bool} {n : Nat} {L L' : Nat → Bool} {i : Nat} (hs : ∀ j, j < n → L j = true → L' j = true) (h : good m n L i = true) : good m n L' i = true := by
  unfold good at *
  rw [Bool.and_eq_true] at *
  exact ⟨frTo_mono hs h.1, toTo_mono hs h.2⟩
theorem cnt_le {L L' : Nat → Bool} : ∀ {n : Nat}, (∀ j, j < n → L j = true → L' j = true) → cnt L n ≤ cnt L' n := by
  intro n
  induction n with
  | zero => intro _; exact Nat.le_refl _
  | succ n ih =>
    intro hs
    have h1 := ih fun j hj => hs j (by omega)
    have h2 := hs n (by omega)
    simp only [cnt]
    cases e : L n
    · simp; omega
    · rw [h2 e]; simp; omega
theorem cnt_lt {L L' : Nat → Bool} : ∀ {n : Nat}, (∀ j, j < n → L j = true → L' j = true) → ∀ i, i < n → L i = false → L' i = true → cnt L n + 1 ≤ cnt L' n := by
  intro n
  induction n with
  | zero => intro _ i hi; omega
  | succ n ih =>
    intro hs i hi h1 h2
    simp only [cnt]
    by_cases e : i = n
    · subst e
      have := cnt_le (n := i) fun j hj => hs j (by omega)
      rw [h1, h2]; simp; omega
    · have h3 := ih (fun j hj => hs j (by omega)) i (by omega) h1 h2
      have h4 := hs n (by omega)
      cases e2 : L n
      · simp; omega
      · rw [h4 e2]; simp; omega
theorem cnt_top (L : Nat → Bool) : ∀ n, cnt L n ≤ n := by
  intro n
  induction n with
  | zero => exact Nat.le_refl _
  | succ n ih => simp only [cnt]; split <;> omega
theorem cnt_zero {L : Nat → Bool} : ∀ {n : Nat}, cnt L n = 0 → ∀ i, i < n → L i = false := by
  intro n
  induction n with
  | zero => intro _ i hi; omega
  | succ n ih =>
    intro h i hi
    simp only [cnt] at h
    cases e : L n
    · rw [e] at h
      by_cases e2 : i = n
      · rw [e2]; exact e
      · exact ih (by simpa using h) i (by omega)
    · rw [e] at h; simp at h
theorem rnd_stable (m : Nat → Nat → Bool) (n : Nat) : ∀ t, (∀ i, i < n → rnd m n t i = true → good m n (rnd m n t) i = true) ∨ cnt (rnd m n t) n + t ≤ n := by
  intro t
  induction t with
  | zero => exact .inr (cnt_top _ _)
  | succ t ih =>
    by_cases hs : ∀ i, i < n → rnd m n t i = true → good m n (rnd m n t) i = true
    · left
      intro i hi h
      have h1 : rnd m n t i = true := by simp only [rnd, Bool.and_eq_true] at h; exact h.1
      refine good_mono (fun j hj hl => ?_) (hs i hi h1)
      simp only [rnd, Bool.and_eq_true]
      exact ⟨hl, hs j hj hl⟩
    · rcases ih with ih | ih
      · exact absurd ih hs
      · right
        have ⟨i, hi⟩ : ∃ i, ¬ (i < n → rnd m n t i = true → good m n (rnd m n t) i = true) := Classical.not_forall.1 hs
        have hin : i < n := Decidable.byContradiction fun h => hi fun h' => absurd h' h
        have hil : rnd m n t i = true := Decidable.byContradiction fun h => hi fun _ h' => absurd h' h
        have hig : good m n (rnd m n t) i = false := by
          cases e : good m n (rnd m n t) i
          · rfl
          · exact absurd (fun _ _ => e) hi
        have := cnt_lt (L := rnd m n (t + 1)) (L' := rnd m n t) (n := n) (fun j _ h => by simp only [rnd, Bool.and_eq_true] at h; exact h.1) i hin (by simp only [rnd, hig, Bool.and_false]) hil
        omega
theorem lv_post (m : Nat → Nat → Bool) (n : Nat) : ∀ i, i < n → lv m n i = true → good m n (lv m n) i = true := by
  rcases rnd_stable m n n with h | h
  · exact h
  · intro i hi hl
    have := cnt_zero (L := lv m n) (n := n) (by unfold lv; omega) i hi
    rw [this] at hl; cases hl
theorem lv_only {m : Nat → Nat → Bool} {n : Nat} {L : Nat → Bool} (hp : ∀ i, i < n → L i = true → good m n L i = true) (hl : ∀ i, i < n → lv m n i = true → L i = true) : bls n L = bls n (lv m n) := by
  have key : ∀ t i, i < n → L i = true → rnd m n t i = true := by
    intro t
    induction t with
    | zero => intro i _ _; rfl
    | succ t ih =>
      intro i hi h
      simp only [rnd, Bool.and_eq_true]
      exact ⟨ih i hi h, good_mono ih (hp i hi h)⟩
  refine bls_congr fun i hi => ?_
  rw [Bool.eq_iff_iff]
  exact ⟨key n i hi, hl i hi⟩
/-- One vertex gone. -/
def gone (L : Nat → Bool) (i : Nat) : Nat → Bool := fun b => if b = i then false else L b
theorem gone_set (n i : Nat) (L : Nat → Bool) : (bls n L).set i (.bool false) = bls n (gone L i) := bls_set n i L false
theorem gone_keeps {m : Nat → Nat → Bool} {n : Nat} {L : Nat → Bool} {i : Nat} (hl : ∀ a, a < n → lv m n a = true → L a = true) (hg : good m n L i = false) : ∀ a, a < n → lv m n a = true → gone L i a = true := by
  intro a ha h
  unfold gone
  by_cases e : a = i
  · subst e
    have := good_mono hl (lv_post m n a ha h)
    rw [hg] at this; cases this
  · rw [if_neg e]; exact hl a ha h
theorem gone_cnt {n : Nat} {L : Nat → Bool} {i : Nat} (hi : i < n) (h : L i = true) : cnt (gone L i) n + 1 ≤ cnt L n :=
  cnt_lt (fun j _ hj => by unfold gone at hj; split at hj; · cases hj
                           · exact hj) i hi (by simp [gone]) h
theorem fill_set (n k : Nat) : (bls n fun b => decide (b < k)).set k (.bool true) = bls n fun b => decide (b < k + 1) := by
  rw [bls_set]
  refine bls_congr fun b _ => ?_
  by_cases e : b = k
  · subst e; simp
  · rw [if_neg e]; simp; omega
theorem meas0 {a b g : Nat} (h1 : 2 * a + (if true = true then 1 else 0) ≤ g) (h2 : 2 * b ≤ 2 * a) : 2 * b < g := by rw [if_pos rfl] at h1; omega
theorem meas1 {a b g : Nat} (h1 : 2 * a + (if true = true then 1 else 0) ≤ g) (h2 : 2 * b + (if true = true then 2 else 0) ≤ 2 * a) : 2 * b + 1 < g := by rw [if_pos rfl] at h1 h2; omega
def lvTo (L : Nat → Bool) : Nat → List Int
  | 0 => []
  | k + 1 => lvTo L k ++ (if L k = true then [(k : Int)] else [])
def livelyOf (m : List (List Int)) : List Int := if isMat m = true then lvTo (lv (nz m) m.length) m.length else []
theorem livelyOf_yes {m : List (List Int)} (h : isMat m = true) {n : Nat} (hn : m.length = n) : livelyOf m = lvTo (lv (nz m) n) n := by subst hn; exact if_pos h
theorem livelyOf_no {m : List (List Int)} (h : isMat m = false) : livelyOf m = [] := if_neg (by simp [h])
theorem lvTo_len (L : Nat → Bool) : ∀ k, (lvTo L k).length ≤ k := by
  intro k
  induction k with
  | zero => simp [lvTo]
  | succ k ih => simp only [lvTo, List.length_append]; split <;> simp <;> omega
theorem livelyOf_len (m : List (List Int)) : (livelyOf m).length ≤ 1000 := by
  cases h : isMat m
  · rw [livelyOf_no h]; decide
  · have h9 := (isMat_len h).2
    have := lvTo_len (lv (nz m) m.length) m.length
    rw [livelyOf_yes h rfl]; omega
end Go.Proofs.YtkohadoicebojaaGreatDoor
