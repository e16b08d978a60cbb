/- All paths of a length, by levels and by depth, and how many there are: plain facts, with no program in sight. No statement is proved here. -/
import Derived.Test.YtenjakgahniijaaPath
import Derived.Test.YtenjakgahniijaaPow
namespace Go.Proofs.Ytenjakgahniijaa
open Go.RowKit Go.Deep
/-- The end of a path. -/
def en (A : List (List Int)) (p : List Int) : Int := ent A (p.getD (p.length - 1) 0).toNat 1
def fits (A : List (List Int)) (p : List Int) (k : Nat) : Bool := p.isEmpty || en A p == ent A k 0
/-- A path with one of the first k arcs behind it. -/
def ext (A : List (List Int)) (p : List Int) : Nat → List (List Int)
  | 0 => []
  | k + 1 => ext A p k ++ (if fits A p k = true then [p ++ [(k : Int)]] else [])
def exts (A : List (List Int)) (p : List Int) : List (List Int) := ext A p A.length
def lev (A : List (List Int)) : Nat → List (List Int)
  | 0 => [[]]
  | t + 1 => (lev A t).flatMap (exts A)
def fil (A : List (List Int)) : Nat → List Int → List (List Int)
  | 0, p => [p]
  | k + 1, p => (exts A p).flatMap (fil A k)
theorem fil_lev (A : List (List Int)) : ∀ k t, (lev A t).flatMap (fil A k) = lev A (t + k) := by
  intro k
  induction k with
  | zero => intro t; show (lev A t).flatMap (fun p => [p]) = _; simp
  | succ k ih =>
    intro t
    show (lev A t).flatMap (fun p => (exts A p).flatMap (fil A k)) = _
    rw [← List.flatMap_assoc, show t + (k + 1) = t + 1 + k by omega, ← ih]
    rfl
theorem fil_all (A : List (List Int)) (k : Nat) : fil A k [] = lev A k := by
  have h := fil_lev A k 0
  rw [Nat.zero_add] at h
  rw [← h]
  show _ = [[]].flatMap (fil A k)
  simp
theorem ext_bd (A : List (List Int)) (p : List Int) : ∀ k, (ext A p k).length ≤ k := by
  intro k
  induction k with
  | zero => exact Nat.le_refl _
  | succ k ih => simp only [ext, List.length_append]; split <;> simp <;> omega
theorem ext_mem {A : List (List Int)} {p q : List Int} : ∀ {k}, q ∈ ext A p k → ∃ a : Nat, a < k ∧ fits A p a = true ∧ q = p ++ [(a : Int)] := by
  intro k
  induction k with
  | zero => intro h; cases h
  | succ k ih =>
    intro h
    rw [ext, List.mem_append] at h
    rcases h with h | h
    · obtain ⟨a, h1, h2⟩ := ih h; exact ⟨a, by omega, h2⟩
    · split at h
      · rename_i hf
        rw [List.mem_singleton] at h
        exact ⟨k, by omega, hf, h⟩
      · cases h
theorem flatMap_bd {α β : Type} {f : α → List β} {c : Nat} (h : ∀ x, (f x).length ≤ c) : ∀ l : List α, (l.flatMap f).length ≤ l.length * c := by
  intro l
  induction l with
  | nil => simp
  | cons a l ih =>
    rw [List.flatMap_cons, List.length_append, List.length_cons, Nat.succ_mul]
    have := h a
    omega
theorem lev_len {A : List (List Int)} : ∀ {t} {p : List Int}, p ∈ lev A t → p.length = t := by
  intro t
  induction t with
  | zero => intro p h; have h' : p ∈ [[]] := h; rw [List.mem_singleton] at h'; rw [h']; rfl
  | succ t ih =>
    intro p h
    have h' : p ∈ (lev A t).flatMap (exts A) := h
    rw [List.mem_flatMap] at h'
    obtain ⟨q, hq, h2⟩ := h'
    obtain ⟨a, _, _, rfl⟩ := ext_mem h2
    rw [List.length_append, ih hq]; rfl
theorem lev_idx {A : List (List Int)} : ∀ {t} {p : List Int}, p ∈ lev A t → ∀ x ∈ p, 0 ≤ x ∧ x < A.length := by
  intro t
  induction t with
  | zero => intro p h; have h' : p ∈ [[]] := h; rw [List.mem_singleton] at h'; rw [h']; intro x hx; cases hx
  | succ t ih =>
    intro p h
    have h' : p ∈ (lev A t).flatMap (exts A) := h
    rw [List.mem_flatMap] at h'
    obtain ⟨q, hq, h2⟩ := h'
    obtain ⟨a, ha, _, rfl⟩ := ext_mem h2
    intro x hx
    rw [List.mem_append] at hx
    rcases hx with hx | hx
    · exact ih hq x hx
    · rw [List.mem_singleton] at hx; omega
/-- Sums. -/
def sm (f : Nat → Int) : Nat → Int
  | 0 => 0
  | k + 1 => sm f k + f k
theorem sm_congr {f g : Nat → Int} : ∀ {n}, (∀ i, i < n → f i = g i) → sm f n = sm g n := by
  intro n
  induction n with
  | zero => intro _; rfl
  | succ n ih => intro h; simp only [sm]; rw [ih fun i hi => h i (by omega), h n (by omega)]
theorem sm_add (f g : Nat → Int) : ∀ n, sm (fun i => f i + g i) n = sm f n + sm g n := by
  intro n
  induction n with
  | zero => rfl
  | succ n ih => simp only [sm]; rw [ih]; omega
theorem sm_zero : ∀ n, sm (fun _ => 0) n = 0 := by
  intro n
  induction n with
  | zero => rfl
  | succ n ih => simp only [sm]; rw [ih]; rfl
theorem sm_mul (f : Nat → Int) (c : Int) : ∀ n, sm (fun i => f i * c) n = sm f n * c := by
  intro n
  induction n with
  | zero => simp [sm]
  | succ n ih => simp only [sm]; rw [ih, Int.add_mul]
theorem sm_swap (f : Nat → Nat → Int) (n : Nat) : ∀ k, sm (fun i => sm (f i) n) k = sm (fun j => sm (fun i => f i j) k) n := by
  intro k
  induction k with
  | zero => simp only [sm]; rw [sm_zero]
  | succ k ih => simp only [sm]; rw [ih, ← sm_add]
theorem sm_one {x : Nat} : ∀ {n}, x < n → ∀ g : Nat → Int, sm (fun i => if i = x then g i else 0) n = g x := by
  intro n
  induction n with
  | zero => intro h; omega
  | succ n ih =>
    intro h g
    simp only [sm]
    by_cases e : n = x
    · subst e
      rw [if_pos rfl, sm_congr (g := fun _ => 0) fun i hi => if_neg (by omega), sm_zero]; omega
    · rw [if_neg e, ih (by omega)]; omega
theorem sumI_rowF (g : Nat → Int) : ∀ n, sumI (rowF n g) = sm g n := by
  intro n
  induction n with
  | zero => rfl
  | succ n ih => rw [rowF_succ]; unfold sumI at *; rw [List.sum_append, ih]; simp [sm]
theorem sumM_tabF (f : Nat → Nat → Int) (n : Nat) : ∀ k, sumM (tabF k n f) = sm (fun i => sm (f i) n) k := by
  intro k
  induction k with
  | zero => rfl
  | succ k ih =>
    rw [tabF_succ]
    unfold sumM sumI at *
    rw [List.map_append, List.sum_append, ih]
    simp only [List.map_cons, List.map_nil, List.sum_cons, List.sum_nil, sm]
    have := sumI_rowF (f k) n
    unfold sumI at this
    rw [this]; omega
theorem dot_sm (a b : List (List Int)) (p q : Nat) : ∀ k, dot a b p q k = sm (fun l => ent a p l * ent b l q) k := by
  intro k
  induction k with
  | zero => rfl
  | succ k ih => simp only [dot, sm]; rw [ih]
/-- The sum of a column. -/
def col (M : List (List Int)) (n j : Nat) : Int := sm (fun i => ent M i j) n
theorem col_prod (a b : List (List Int)) {n j : Nat} (hj : j < n) : col (prodM a b n) n j = sm (fun k => col a n k * ent b k j) n := by
  unfold col
  rw [sm_congr (g := fun i => sm (fun l => ent a i l * ent b l j) n) fun i hi => by
    show ent (tabF n n _) i j = _
    rw [ent_tabF hi hj, dot_sm], sm_swap]
  exact sm_congr fun k _ => sm_mul (fun i => ent a i k) (ent b k j) n
theorem col_unit {n j : Nat} (hj : j < n) : col (tabF n n unitF) n j = 1 := by
  unfold col
  rw [sm_congr (g := fun i => if i = j then 1 else 0) fun i hi => by rw [ent_tabF hi hj]; rfl]
  exact sm_one hj fun _ => 1
/-- How many arcs, and how many paths with an end. -/
def nA (A : List (List Int)) (i j : Int) : Nat := A.countP (· == [i, j])
def nE (A : List (List Int)) (P : List (List Int)) (j : Int) : Nat := P.countP fun p => en A p == j
theorem nA_row (m : List (List Int)) (i : Nat) (a b : Nat) : ∀ J, nA (arcsRow m i J) a b = if a = i ∧ b < J then (ent m i b).toNat else 0 := by
  intro J
  induction J with
  | zero => simp [arcsRow, nA]
  | succ J ih =>
    unfold nA at *
    rw [arcsRow, List.countP_append, ih, List.countP_replicate]
    by_cases e : a = i
    · subst e
      by_cases e2 : b = J
      · subst e2; simp
      · have e3 : ¬ (J : Int) = (b : Int) := by omega
        have e4 : b < J + 1 ↔ b < J := by omega
        simp [e3, e4]
    · have e3 : ¬ (i : Int) = (a : Int) := by omega
      simp [e, e3]
theorem nA_to (m : List (List Int)) (n : Nat) (a b : Nat) : ∀ I, nA (arcsTo m n I) a b = if a < I ∧ b < n then (ent m a b).toNat else 0 := by
  intro I
  induction I with
  | zero => simp [arcsTo, nA]
  | succ I ih =>
    have h := nA_row m I a b n
    unfold nA at *
    rw [arcsTo, List.countP_append, ih, h]
    by_cases e : a = I
    · subst e; simp
    · have e4 : a < I + 1 ↔ a < I := by omega
      simp [e, e4]
/-- Rows are pairs of vertices. -/
def Prs (A : List (List Int)) (n : Nat) : Prop := ∀ r ∈ A, ∃ a b : Nat, a < n ∧ b < n ∧ r = [(a : Int), (b : Int)]
theorem prs_get {A : List (List Int)} {n k : Nat} (h : Prs A n) (hk : k < A.length) : ∃ a b : Nat, a < n ∧ b < n ∧ A[k]? = some [(a : Int), (b : Int)] ∧ ent A k 0 = a ∧ ent A k 1 = b := by
  have h1 := List.getElem?_eq_getElem hk
  obtain ⟨a, b, ha, hb, e⟩ := h _ (List.getElem_mem hk)
  rw [e] at h1
  exact ⟨a, b, ha, hb, h1, ent_of h1 rfl, ent_of h1 rfl⟩
theorem en_snoc (A : List (List Int)) (p : List Int) (k : Nat) : en A (p ++ [(k : Int)]) = ent A k 1 := by
  unfold en
  rw [List.length_append, List.length_singleton, Nat.add_sub_cancel]
  have : (p ++ [(k : Int)]).getD p.length 0 = (k : Int) := by simp [List.getD]
  rw [this, Int.toNat_natCast]
theorem nE_ext {A : List (List Int)} {n : Nat} (hA : Prs A n) {p : List Int} (hp : p ≠ []) {i : Nat} (hi : en A p = (i : Int)) (j : Nat) : ∀ k, k ≤ A.length → nE A (ext A p k) j = nA (A.take k) i j := by
  intro k
  induction k with
  | zero => intro _; simp [ext, nE, nA]
  | succ k ih =>
    intro hk
    obtain ⟨a, b, _, _, hg, h0, h1⟩ := prs_get hA (show k < A.length by omega)
    have ih' := ih (by omega)
    unfold nE nA at *
    rw [ext, List.countP_append, ih', take_snoc hg, List.countP_append]
    congr 1
    have hf : fits A p k = decide (i = a) := by
      unfold fits
      rw [hi, h0]
      have : p.isEmpty = false := by cases p with | nil => exact absurd rfl hp | cons _ _ => rfl
      rw [this, Bool.false_or, Bool.eq_iff_iff]; simp [Int.ofNat_inj]
    rw [hf]
    by_cases e : i = a
    · subst e
      simp only [decide_true, if_true]
      rw [List.countP_singleton, List.countP_singleton, en_snoc, h1]
      simp
    · have e2 : ¬ (a : Int) = (i : Int) := by omega
      simp [e, e2]
theorem nE_ext0 {A : List (List Int)} {n : Nat} (hA : Prs A n) (j : Nat) : ∀ k, k ≤ A.length → (nE A (ext A [] k) j : Int) = sm (fun i => (nA (A.take k) i j : Int)) n := by
  intro k
  induction k with
  | zero => intro _; simp only [ext, nE, nA, List.take_zero, List.countP_nil]; exact (sm_zero n).symm
  | succ k ih =>
    intro hk
    obtain ⟨a, b, ha, _, hg, h0, h1⟩ := prs_get hA (show k < A.length by omega)
    have ih' := ih (by omega)
    have hs : (fun i : Nat => (nA (A.take (k + 1)) i j : Int)) = fun i : Nat => (nA (A.take k) i j : Int) + (if i = a then (if b = j then 1 else 0) else 0) := by
      funext i
      unfold nA
      rw [take_snoc hg, List.countP_append, List.countP_singleton, Int.natCast_add]
      congr 1
      by_cases e : i = a
      · subst e
        by_cases e2 : b = j
        · subst e2; simp
        · have e3 : ¬ (b : Int) = (j : Int) := by omega
          simp [e2, e3]
      · have e3 : ¬ (a : Int) = (i : Int) := by omega
        simp [e, e3]
    rw [hs, sm_add, ← ih', sm_one ha fun _ => if b = j then 1 else 0]
    have hf : fits A [] k = true := rfl
    unfold nE
    rw [ext, hf, if_pos rfl, List.countP_append, List.countP_singleton, Int.natCast_add]
    congr 1
    rw [en_snoc, h1]
    by_cases e2 : b = j
    · subst e2; simp
    · have e3 : ¬ (b : Int) = (j : Int) := by omega
      simp [e2, e3]
theorem sum_by_end {A : List (List Int)} {n : Nat} {g : Nat → Int} : ∀ {P : List (List Int)}, (∀ p ∈ P, ∃ i : Nat, i < n ∧ en A p = (i : Int)) → (P.map fun p => g (en A p).toNat).sum = sm (fun i => (nE A P i : Int) * g i) n := by
  intro P
  induction P with
  | nil => intro _; simp only [nE, List.map_nil, List.sum_nil, List.countP_nil]; rw [sm_congr (g := fun _ => 0) fun i _ => by simp, sm_zero]
  | cons p P ih =>
    intro h
    obtain ⟨x, hx, e⟩ := h p (by simp)
    have ih' := ih fun q hq => h q (by simp [hq])
    have hs : (fun i : Nat => (nE A (p :: P) i : Int) * g i) = fun i : Nat => (nE A P i : Int) * g i + (if i = x then g i else 0) := by
      funext i
      unfold nE
      rw [List.countP_cons, e]
      by_cases e2 : i = x
      · subst e2; simp [Int.add_mul]
      · have e3 : ¬ (x : Int) = (i : Int) := by omega
        simp [e2, e3]
    rw [hs, sm_add, ← ih', sm_one hx, List.map_cons, List.sum_cons, e, Int.toNat_natCast]; omega
theorem arcs_prs (m : List (List Int)) : Prs (arcs m) m.length := fun _ hr => arcs_mem hr
theorem lev_end {m : List (List Int)} {n : Nat} (hl : m.length = n) {t : Nat} {p : List Int} (hp : p ∈ lev (arcs m) (t + 1)) : p ≠ [] ∧ ∃ i : Nat, i < n ∧ en (arcs m) p = (i : Int) := by
  subst hl
  have h' : p ∈ (lev (arcs m) t).flatMap (exts (arcs m)) := hp
  rw [List.mem_flatMap] at h'
  obtain ⟨q, hq, h2⟩ := h'
  obtain ⟨a, ha, _, rfl⟩ := ext_mem h2
  obtain ⟨x, y, _, hy, _, _, h1⟩ := prs_get (arcs_prs m) ha
  exact ⟨by simp, y, hy, by rw [en_snoc, h1]⟩
theorem sum_cast {α : Type} (f : α → Nat) : ∀ l : List α, (((l.map f).sum : Nat) : Int) = (l.map fun x => (f x : Int)).sum := by
  intro l
  induction l with
  | nil => rfl
  | cons a l ih => simp only [List.map_cons, List.sum_cons, Int.natCast_add]; rw [ih]
theorem nE_lev {m : List (List Int)} {n : Nat} (g : isMat m = true) (hl : m.length = n) : ∀ t j, j < n → (nE (arcs m) (lev (arcs m) (t + 1)) j : Int) = col (powT m (t + 1)) n j := by
  intro t
  have hA : ∀ i j : Nat, i < n → j < n → (nA (arcs m) i j : Int) = ent m i j := by
    intro i j hi hj
    have h1 := nA_to m m.length i j m.length
    have h2 := (isMat_ent g (i := i) (j := j) (by omega) (by omega)).1
    unfold arcs
    rw [h1, if_pos ⟨by omega, by omega⟩]; omega
  induction t with
  | zero =>
    intro j hj
    have h1 := nE_ext0 (arcs_prs m) j (arcs m).length (Nat.le_refl _)
    rw [List.take_length] at h1
    have e : lev (arcs m) 1 = exts (arcs m) [] := by show [[]].flatMap (exts (arcs m)) = _; simp
    rw [e]
    show (nE (arcs m) (ext (arcs m) [] (arcs m).length) j : Int) = col (prodM (powT m 0) m m.length) n j
    rw [h1, hl, col_prod _ _ hj]
    refine sm_congr fun i hi => ?_
    rw [hA i j hi hj, powT_zero hl, col_unit hi, Int.one_mul]
  | succ t ih =>
    intro j hj
    show (nE (arcs m) ((lev (arcs m) (t + 1)).flatMap (exts (arcs m))) j : Int) = col (prodM (powT m (t + 1)) m m.length) n j
    rw [hl, col_prod _ _ hj]
    have h1 : nE (arcs m) ((lev (arcs m) (t + 1)).flatMap (exts (arcs m))) j = ((lev (arcs m) (t + 1)).map fun p => nE (arcs m) (exts (arcs m) p) j).sum := by
      unfold nE; rw [List.countP_flatMap]; rfl
    rw [h1, sum_cast]
    have h2 : (lev (arcs m) (t + 1)).map (fun p => (nE (arcs m) (exts (arcs m) p) j : Int)) = (lev (arcs m) (t + 1)).map fun p => ent m (en (arcs m) p).toNat j := by
      apply List.map_congr_left
      intro p hp
      obtain ⟨h3, i, hi, h4⟩ := lev_end hl hp
      have h5 := nE_ext (arcs_prs m) h3 h4 j (arcs m).length (Nat.le_refl _)
      rw [List.take_length] at h5
      show (nE (arcs m) (ext (arcs m) p (arcs m).length) j : Int) = _
      rw [h5, h4, Int.toNat_natCast, hA i j hi hj]
    rw [h2, sum_by_end (g := fun i => ent m i j) fun p hp => (lev_end hl hp).2]
    exact sm_congr fun i hi => by rw [ih i hi]
theorem powOk_mat {m : List (List Int)} {t : Nat} (h : powOk m (t + 1) = true) : isMat (powT m (t + 1)) = true := by
  have h' : (powOk m t && mulOk (powT m t) m) = true := h
  rw [Bool.and_eq_true] at h'
  have h2 := h'.2
  unfold mulOk at h2
  simp only [Bool.and_eq_true] at h2
  have h3 := h2.2.2.2
  rw [powT_length] at h3
  exact h3
theorem len_by_end {A : List (List Int)} {n : Nat} {P : List (List Int)} (h : ∀ p ∈ P, ∃ i : Nat, i < n ∧ en A p = (i : Int)) : (P.length : Int) = sm (fun i => (nE A P i : Int)) n := by
  have h1 := sum_by_end (g := fun _ => 1) h
  have h2 : ∀ l : List (List Int), (l.map fun _ => (1 : Int)).sum = l.length := by
    intro l
    induction l with
    | nil => rfl
    | cons a l ih => simp only [List.map_cons, List.sum_cons, List.length_cons]; rw [ih]; omega
  rw [h2] at h1
  rw [h1]
  exact sm_congr fun i _ => Int.mul_one _
/-- The number of paths is the sum of the power. -/
theorem lev_count {m : List (List Int)} (g : isMat m = true) {t : Nat} (h : powOk m (t + 1) = true) : ((lev (arcs m) (t + 1)).length : Int) = sumOf (powT m (t + 1)) := by
  rw [len_by_end (n := m.length) fun p hp => (lev_end rfl hp).2, sumOf_yes (powOk_mat h)]
  have e : powT m (t + 1) = tabF m.length m.length fun p q => dot (powT m t) m p q m.length := rfl
  rw [e, sumM_tabF, sm_swap]
  refine sm_congr fun j hj => ?_
  rw [nE_lev g rfl t j hj]
  unfold col
  refine sm_congr fun i hi => ?_
  rw [e, ent_tabF hi hj]
end Go.Proofs.Ytenjakgahniijaa
