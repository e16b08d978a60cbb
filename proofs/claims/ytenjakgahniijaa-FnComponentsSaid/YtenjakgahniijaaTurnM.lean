/- The lengths of paths by the period: plain facts, with no program in sight. No statement is proved here. -/
import Derived.Test.YtenjakgahniijaaPt
import Derived.Test.YtenjakgahniijaaLive
namespace Go.Proofs.Ytenjakgahniijaa
open Go.RowKit Go.Deep
/-- Of more numbers than places two are in one place. -/
theorem pigeon : ∀ (n : Nat) (f : Nat → Nat), (∀ i, i ≤ n → f i < n) → ∃ i j, i < j ∧ j ≤ n ∧ f i = f j := by
  intro n
  induction n with
  | zero => intro f h; have := h 0 (Nat.le_refl _); omega
  | succ n ih =>
    intro f h
    by_cases hc : ∃ i, i ≤ n ∧ f i = f (n + 1)
    · obtain ⟨i, h1, h2⟩ := hc
      exact ⟨i, n + 1, by omega, Nat.le_refl _, h2⟩
    · have hc' : ∀ i, i ≤ n → f i ≠ f (n + 1) := fun i h1 h2 => hc ⟨i, h1, h2⟩
      have hv := h (n + 1) (Nat.le_refl _)
      by_cases hl : f (n + 1) = n
      · obtain ⟨i, j, h1, h2, h3⟩ := ih f fun i h1 => by have := h i (by omega); have := hc' i h1; omega
        exact ⟨i, j, h1, by omega, h3⟩
      · obtain ⟨i, j, h1, h2, h3⟩ := ih (fun i => if f i = n then f (n + 1) else f i) fun i h1 => by
          show (if f i = n then f (n + 1) else f i) < n
          have := h i (by omega)
          split <;> omega
        refine ⟨i, j, h1, by omega, ?_⟩
        have e1 := hc' i (by omega)
        have e2 := hc' j h2
        have h4 : (if f i = n then f (n + 1) else f i) = (if f j = n then f (n + 1) else f j) := h3
        split at h4 <;> split at h4 <;> omega
/-- A path, vertex by vertex. -/
theorem Pt_walk {m : List (List Int)} {n i : Nat} (hi : i < n) : ∀ L j, j < n → Pt m n L i j → ∃ f : Nat → Nat, f 0 = i ∧ f L = j ∧ (∀ s, s ≤ L → f s < n) ∧ ∀ s, s < L → 0 < ent m (f s) (f (s + 1)) := by
  intro L
  induction L with
  | zero =>
    intro j hj h
    rw [Pt_zero] at h
    exact ⟨fun _ => i, rfl, h, fun _ _ => hi, fun s hs => by omega⟩
  | succ L ih =>
    intro j hj h
    obtain ⟨a, ha, h1, h2⟩ := Pt_succ.1 h
    obtain ⟨f, f0, fL, fb, fs⟩ := ih a ha h1
    refine ⟨fun s => if s = L + 1 then j else f s, by simp [f0], by simp, fun s hs => ?_, fun s hs => ?_⟩
    · show (if s = L + 1 then j else f s) < n
      by_cases e : s = L + 1
      · rw [if_pos e]; exact hj
      · rw [if_neg e]; exact fb s (by omega)
    · show 0 < ent m (if s = L + 1 then j else f s) (if s + 1 = L + 1 then j else f (s + 1))
      rw [if_neg (by omega)]
      by_cases e : s = L
      · subst e; rw [if_pos rfl, fL]; exact h2
      · rw [if_neg (by omega)]; exact fs s (by omega)
theorem Pt_seg {m : List (List Int)} {n L : Nat} {f : Nat → Nat} (fb : ∀ s, s ≤ L → f s < n) (fs : ∀ s, s < L → 0 < ent m (f s) (f (s + 1))) {a : Nat} : ∀ d, a + d ≤ L → Pt m n d (f a) (f (a + d)) := by
  intro d
  induction d with
  | zero => intro _; exact Pt_zero.2 rfl
  | succ d ih => intro h; exact Pt_succ.2 ⟨f (a + d), fb _ (by omega), ih (by omega), fs (a + d) (by omega)⟩
/-- A long closed path holds a short one. -/
theorem Pt_cut {m : List (List Int)} {n i L : Nat} (hi : i < n) (hL : n ≤ L) (h : Pt m n L i i) : ∃ c k, 1 ≤ c ∧ c ≤ n ∧ k < n ∧ Pt m n c k k ∧ Pt m n (L - c) i i := by
  obtain ⟨f, f0, fL, fb, fs⟩ := Pt_walk hi L i hi h
  obtain ⟨a, b, h1, h2, h3⟩ := pigeon n f fun s hs => fb s (by omega)
  have p1 := Pt_seg fb fs (a := a) (b - a) (by omega)
  rw [show a + (b - a) = b by omega, ← h3] at p1
  have p2 := Pt_seg fb fs (a := 0) a (by omega)
  rw [Nat.zero_add, f0] at p2
  have p3 := Pt_seg fb fs (a := b) (L - b) (by omega)
  rw [show b + (L - b) = L by omega, fL, ← h3] at p3
  refine ⟨b - a, f a, by omega, by omega, fb a (by omega), p1, ?_⟩
  have p4 := Pt_join (fb a (by omega)) p2 (L - b) i p3
  rwa [show a + (L - b) = L - (b - a) by omega] at p4
theorem per_closed {m : List (List Int)} {n : Nat} : ∀ L i, i < n → Pt m n L i i → per m n (2 * n) ∣ (L : Int) := by
  intro L
  induction L using Nat.strongRecOn with
  | ind L ih =>
    intro i hi h
    by_cases h0 : L = 0
    · subst h0; exact Int.dvd_zero _
    by_cases hL : L ≤ n
    · exact per_dvd (by omega) (by omega) (anyD_of hi h)
    · obtain ⟨c, k, h1, h2, h3, h4, h5⟩ := Pt_cut hi (by omega) h
      have d1 := per_dvd (m := m) (n := n) (T := 2 * n) h1 (by omega) (anyD_of h3 h4)
      have d2 := ih (L - c) (by omega) i hi h5
      have e : (L : Int) = (c : Int) + ((L - c : Nat) : Int) := by omega
      rw [e]
      exact Int.dvd_add d1 d2
theorem per_pos {m : List (List Int)} {n : Nat} (hn : 0 < n) (hp : ∀ i j, i < n → j < n → ∃ t, 1 ≤ t ∧ Pt m n t i j) : 0 < per m n (2 * n) := by
  have key : ∃ c k, 1 ≤ c ∧ c ≤ n ∧ k < n ∧ Pt m n c k k := by
    obtain ⟨t, h1, h2⟩ := hp 0 0 hn hn
    by_cases hL : t ≤ n
    · exact ⟨t, 0, h1, hL, hn, h2⟩
    · obtain ⟨c, k, h1, h2, h3, h4, -⟩ := Pt_cut hn (by omega) h2
      exact ⟨c, k, h1, h2, h3, h4⟩
  obtain ⟨c, k, h1, h2, h3, h4⟩ := key
  have d := per_dvd (m := m) (n := n) (T := 2 * n) h1 (by omega) (anyD_of h3 h4)
  have b := (per_bd m n (2 * n)).1
  by_cases e : per m n (2 * n) = 0
  · rw [e] at d
    have := Int.zero_dvd.1 d
    omega
  · omega
/-- The lengths of the paths from vertex 0, by p. -/
noncomputable def trn (m : List (List Int)) (n : Nat) (p : Int) (j : Nat) : Int := open Classical in if h : ∃ t, Pt m n t 0 j then ((Classical.choose h : Nat) : Int) % p else 0
/-- Every vertex is reached from each; p divides the lengths of all closed paths. -/
structure Irred (m : List (List Int)) (n : Nat) (p : Int) : Prop where
  n0 : 0 < n
  path : ∀ i j, i < n → j < n → ∃ t, 1 ≤ t ∧ Pt m n t i j
  p0 : 0 < p
  pn : p ≤ 2 * n
  dvd : ∀ L i, i < n → Pt m n L i i → p ∣ (L : Int)
theorem irred {m : List (List Int)} {n : Nat} (h : irr m = true) (hl : m.length = n) : Irred m n (periodOf m) := by
  have hm := irr_mat h
  have n0 : 0 < n := by have := (isMat_len hm).1; omega
  have path := fun i j (h1 : i < n) (h2 : j < n) => irr_path h hl h1 h2
  have e : periodOf m = per m n (2 * n) := by unfold periodOf; rw [if_pos hm, hl]
  rw [e]
  exact ⟨n0, path, per_pos n0 path, by have := (per_bd m n (2 * n)).2; omega, per_closed⟩
theorem turn_eq {m : List (List Int)} {n : Nat} {p : Int} (I : Irred m n p) {t j : Nat} (hj : j < n) (h : Pt m n t 0 j) : trn m n p j = (t : Int) % p := by
  have hx : ∃ t, Pt m n t 0 j := ⟨t, h⟩
  unfold trn
  rw [dif_pos hx]
  have h2 := Classical.choose_spec hx
  obtain ⟨r, -, h3⟩ := I.path j 0 hj I.n0
  have d1 := I.dvd _ 0 I.n0 (Pt_join hj h2 r 0 h3)
  have d2 := I.dvd _ 0 I.n0 (Pt_join hj h r 0 h3)
  apply Int.emod_eq_emod_iff_emod_sub_eq_zero.2
  apply Int.emod_eq_zero_of_dvd
  have := Int.dvd_sub d1 d2
  have e : ((Classical.choose hx + r : Nat) : Int) - ((t + r : Nat) : Int) = ((Classical.choose hx : Nat) : Int) - t := by omega
  rwa [e] at this
theorem turn_zero {m : List (List Int)} {n : Nat} {p : Int} (I : Irred m n p) : trn m n p 0 = 0 := by
  rw [turn_eq I I.n0 (Pt_zero.2 rfl)]; rfl
theorem turn_bd {m : List (List Int)} {n : Nat} {p : Int} (I : Irred m n p) (j : Nat) : 0 ≤ trn m n p j ∧ trn m n p j < p := by
  have p0 := I.p0
  unfold trn
  split
  · exact ⟨Int.emod_nonneg _ (by omega), Int.emod_lt_of_pos _ p0⟩
  · omega
theorem turn_step {m : List (List Int)} {n : Nat} {p : Int} (I : Irred m n p) {i j : Nat} (hi : i < n) (hj : j < n) (h : 0 < ent m i j) : (trn m n p i + 1) % p = trn m n p j := by
  obtain ⟨t, -, h1⟩ := I.path 0 i I.n0 hi
  rw [turn_eq I hi h1, turn_eq I hj (Pt_succ.2 ⟨i, hi, h1, h⟩), Int.emod_add_emod]
  rfl
/-- A set of vertices that holds 0 and that no arc leaves holds all. -/
theorem closed_all {m : List (List Int)} {n : Nat} {p : Int} (I : Irred m n p) {A : Nat → Bool} (h0 : A 0 = true) (hc : ∀ a b, a < n → b < n → A a = true → 0 < ent m a b → A b = true) : ∀ j, j < n → A j = true := by
  have key : ∀ t j, j < n → Pt m n t 0 j → A j = true := by
    intro t
    induction t with
    | zero => intro j hj h; rw [Pt_zero] at h; rw [← h]; exact h0
    | succ t ih =>
      intro j hj h
      obtain ⟨a, ha, h1, h2⟩ := Pt_succ.1 h
      exact hc a j ha hj (ih a ha h1) h2
  intro j hj
  obtain ⟨t, -, h⟩ := I.path 0 j I.n0 hj
  exact key t j hj h
/-- One more sweep finds one more vertex, as long as there is one. -/
def Found (n t : Nat) (A : Nat → Bool) : Prop := A 0 = true ∧ ((∀ j, j < n → A j = true) ∨ t + 1 ≤ cnt A n)
theorem found_start {n : Nat} (hn : 0 < n) {A : Nat → Bool} (h0 : A 0 = true) : Found n 0 A := by
  refine ⟨h0, .inr ?_⟩
  have h := cnt_lt (L := fun _ => false) (L' := A) (n := n) (fun j _ h => by cases h) 0 hn rfl h0
  omega
theorem found_next {m : List (List Int)} {n t : Nat} {p : Int} (I : Irred m n p) {A B : Nat → Bool} (h : Found n t A) (hs : ∀ j, A j = true → B j = true) (hc : ∀ a b, a < n → b < n → A a = true → 0 < ent m a b → B b = true) : Found n (t + 1) B := by
  refine ⟨hs 0 h.1, ?_⟩
  by_cases hall : ∀ j, j < n → A j = true
  · exact .inl fun j hj => hs j (hall j hj)
  · right
    rcases h.2 with h2 | h2
    · exact absurd h2 hall
    · have hx : ∃ a b, a < n ∧ b < n ∧ A a = true ∧ 0 < ent m a b ∧ A b = false := Classical.byContradiction fun hn => hall (closed_all I h.1 fun a b ha hb h3 h4 => by
        cases e : A b
        · exact absurd ⟨a, b, ha, hb, h3, h4, e⟩ hn
        · rfl)
      obtain ⟨a, b, ha, hb, h3, h4, h5⟩ := hx
      have := cnt_lt (L := A) (L' := B) (n := n) (fun j _ h => hs j h) b hb h5 (hc a b ha hb h3 h4)
      omega
theorem found_all {n : Nat} {A : Nat → Bool} (h : Found n n A) : ∀ j, j < n → A j = true := by
  rcases h.2 with h2 | h2
  · exact h2
  · have := cnt_top A n; omega
/-- The result. -/
noncomputable def turnsOf (m : List (List Int)) : List Int := if irr m = true then rowF m.length (trn m m.length (periodOf m)) else []
theorem turnsOf_yes {m : List (List Int)} {n : Nat} (h : irr m = true) (hl : m.length = n) : turnsOf m = rowF n (trn m n (periodOf m)) := by subst hl; exact if_pos h
theorem turnsOf_no {m : List (List Int)} (h : irr m = false) : turnsOf m = [] := if_neg (by simp [h])
theorem turnsOf_len (m : List (List Int)) : (turnsOf m).length ≤ 9 := by
  cases h : irr m
  · rw [turnsOf_no h]; decide
  · rw [turnsOf_yes h rfl, rowF_length]; exact (isMat_len (irr_mat h)).2
/-- The specification's list: -1 where nothing is known yet. -/
noncomputable def knw (T : Nat → Int) (L : Nat → Bool) : Nat → Int := fun j => if L j = true then T j else -1
/-- The program's list. -/
noncomputable def knw0 (T : Nat → Int) (L : Nat → Bool) : Nat → Int := fun j => if L j = true then T j else 0
def addB (L : Nat → Bool) (b : Nat) : Nat → Bool := fun j => L j || decide (j = b)
theorem knw_set (T : Nat → Int) (L : Nat → Bool) (n b : Nat) : (ints (rowF n (knw T L))).set b (.int .i64 (T b)) = ints (rowF n (knw T (addB L b))) := by
  rw [ints_set]
  congr 1
  apply List.ext_getElem?
  intro j
  rw [List.getElem?_set]
  by_cases hj : j < n
  · rw [rowF_get hj, rowF_get hj, rowF_length]
    by_cases e : b = j
    · subst e; simp [hj, knw, addB]
    · have e2 : ¬ j = b := fun h => e h.symm
      simp [e, e2, knw, addB]
  · rw [List.getElem?_eq_none (by rw [rowF_length]; omega), List.getElem?_eq_none (by rw [rowF_length]; omega)]
    simp [rowF_length]; omega
theorem knw0_set (T : Nat → Int) (L : Nat → Bool) (n b : Nat) : (ints (rowF n (knw0 T L))).set b (.int .i64 (T b)) = ints (rowF n (knw0 T (addB L b))) := by
  rw [ints_set]
  congr 1
  apply List.ext_getElem?
  intro j
  rw [List.getElem?_set]
  by_cases hj : j < n
  · rw [rowF_get hj, rowF_get hj, rowF_length]
    by_cases e : b = j
    · subst e; simp [hj, knw0, addB]
    · have e2 : ¬ j = b := fun h => e h.symm
      simp [e, e2, knw0, addB]
  · rw [List.getElem?_eq_none (by rw [rowF_length]; omega), List.getElem?_eq_none (by rw [rowF_length]; omega)]
    simp [rowF_length]; omega
end Go.Proofs.Ytenjakgahniijaa
