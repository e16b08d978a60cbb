/- Products of matrices: brackets, turning around, traces, powers. Plain facts, with no program in sight. No statement is proved here. -/
import Derived.Test.YtkohadoicebojaaGreatDoorPow
import Derived.Test.YtkohadoicebojaaGreatDoorMatB
namespace Go.Proofs.YtkohadoicebojaaGreatDoor
open Go.RowKit Go.Deep
/-- The sum of the first k values. -/
def sm (f : Nat → Int) : Nat → Int
  | 0 => 0
  | k + 1 => sm f k + f k
theorem sm_congr {f g : Nat → Int} : ∀ {k}, (∀ i, i < k → f i = g i) → sm f k = sm g k := by
  intro k
  induction k with
  | zero => intro _; rfl
  | succ k ih => intro h; simp only [sm]; rw [ih fun i hi => h i (by omega), h k (by omega)]
theorem sm_add (f g : Nat → Int) : ∀ k, sm (fun i => f i + g i) k = sm f k + sm g k := by
  intro k
  induction k with
  | zero => rfl
  | succ k ih => simp only [sm]; rw [ih]; omega
theorem sm_mul (f : Nat → Int) (c : Int) : ∀ k, sm (fun i => f i * c) k = sm f k * c := by
  intro k
  induction k with
  | zero => simp [sm]
  | succ k ih => simp only [sm]; rw [ih, Int.add_mul]
theorem sm_mulL (f : Nat → Int) (c : Int) : ∀ k, sm (fun i => c * f i) k = c * sm f k := by
  intro k
  induction k with
  | zero => simp [sm]
  | succ k ih => simp only [sm]; rw [ih, Int.mul_add]
theorem sm_zero : ∀ k, sm (fun _ => 0) k = 0 := by
  intro k
  induction k with
  | zero => rfl
  | succ k ih => simp only [sm]; rw [ih]; rfl
theorem sm_swap (f : Nat → Nat → Int) (n : Nat) : ∀ k, sm (fun i => sm (fun j => f i j) n) k = sm (fun j => sm (fun i => f i j) k) n := by
  intro k
  induction k with
  | zero => simp only [sm]; exact (sm_zero n).symm
  | succ k ih => simp only [sm]; rw [ih, ← sm_add]
theorem sm_pick (f : Nat → Int) (i : Nat) : ∀ k, sm (fun a => if a = i then f a else 0) k = if i < k then f i else 0 := by
  intro k
  induction k with
  | zero => rfl
  | succ k ih =>
    simp only [sm]
    rw [ih]
    by_cases e : k = i
    · subst e; rw [if_neg (by omega), if_pos rfl, if_pos (by omega)]; omega
    · rw [if_neg e]
      by_cases h : i < k
      · rw [if_pos h, if_pos (by omega)]; omega
      · rw [if_neg h, if_neg (by omega)]; rfl
theorem dot_sm (a b : List (List Int)) (p q : Nat) : ∀ k, dot a b p q k = sm (fun i => ent a p i * ent b i q) k := by
  intro k
  induction k with
  | zero => rfl
  | succ k ih => simp only [dot, sm]; rw [ih]
theorem ent_prod {a b : List (List Int)} {n p q : Nat} (hp : p < n) (hq : q < n) : ent (prodM a b n) p q = sm (fun i => ent a p i * ent b i q) n := by
  rw [← dot_sm]; exact ent_tabF hp hq
theorem prod_congr {a a' b b' : List (List Int)} {n : Nat} (h : ∀ p q, p < n → q < n → sm (fun i => ent a p i * ent b i q) n = sm (fun i => ent a' p i * ent b' i q) n) : prodM a b n = prodM a' b' n := by
  apply tabF_congr
  intro p q hp hq
  rw [dot_sm, dot_sm]; exact h p q hp hq
theorem prod_assoc (a b c : List (List Int)) (n : Nat) : prodM (prodM a b n) c n = prodM a (prodM b c n) n := by
  apply prod_congr
  intro p q hp hq
  have e1 : sm (fun i => ent (prodM a b n) p i * ent c i q) n = sm (fun i => sm (fun j => ent a p j * ent b j i * ent c i q) n) n := sm_congr fun i hi => by
    rw [ent_prod hp hi, ← sm_mul]
  have e2 : sm (fun i => ent a p i * ent (prodM b c n) i q) n = sm (fun i => sm (fun j => ent a p i * ent b i j * ent c j q) n) n := sm_congr fun i hi => by
    rw [ent_prod hi hq, ← sm_mulL]
    exact sm_congr fun j _ => (Int.mul_assoc _ _ _).symm
  rw [e1, e2, sm_swap]
theorem tab_self {m : List (List Int)} {n : Nat} (hm : isMat m = true) (hl : m.length = n) : m = tabF n n (ent m) := by subst hl; exact isMat_tab hm
theorem prod_unitR {m : List (List Int)} {n : Nat} (hm : isMat m = true) (hl : m.length = n) : prodM m (tabF n n unitF) n = m := by
  refine Eq.trans ?_ (tab_self hm hl).symm
  apply tabF_congr
  intro p q hp hq
  rw [dot_sm]
  have e : sm (fun i => ent m p i * ent (tabF n n unitF) i q) n = sm (fun i => if i = q then ent m p i else 0) n := sm_congr fun i hi => by
    rw [ent_tabF hi hq]; unfold unitF
    split
    · rw [Int.mul_one]
    · rw [Int.mul_zero]
  rw [e, sm_pick, if_pos hq]
theorem prod_unitL {m : List (List Int)} {n : Nat} (hm : isMat m = true) (hl : m.length = n) : prodM (tabF n n unitF) m n = m := by
  refine Eq.trans ?_ (tab_self hm hl).symm
  apply tabF_congr
  intro p q hp hq
  rw [dot_sm]
  have e : sm (fun i => ent (tabF n n unitF) p i * ent m i q) n = sm (fun i => if i = p then ent m i q else 0) n := sm_congr fun i hi => by
    rw [ent_tabF hp hi]; unfold unitF
    by_cases h : p = i
    · rw [if_pos h, if_pos h.symm, Int.one_mul]
    · rw [if_neg h, if_neg fun h2 => h h2.symm, Int.zero_mul]
  rw [e, sm_pick, if_pos hp]
theorem pow_comm {m : List (List Int)} {n : Nat} (hm : isMat m = true) (hl : m.length = n) : ∀ k, prodM m (powT m k) n = powT m (k + 1) := by
  intro k
  induction k with
  | zero =>
    rw [powT_zero hl, prod_unitR hm hl]
    show m = prodM (powT m 0) m m.length
    rw [hl, powT_zero hl, prod_unitL hm hl]
  | succ k ih =>
    have e1 : powT m (k + 1) = prodM (powT m k) m n := by show prodM (powT m k) m m.length = _; rw [hl]
    have e2 : powT m (k + 1 + 1) = prodM (powT m (k + 1)) m n := by show prodM (powT m (k + 1)) m m.length = _; rw [hl]
    rw [e2, ← ih, prod_assoc, ← e1, ih]
/-- A power is the matrix times the power before. -/
theorem pow_before {m : List (List Int)} {x : Int} (h : powB m x = true) (hx : 0 < x) : mulOk m (powM m (x - 1)) = true ∧ mulM m (powM m (x - 1)) = powM m x := by
  have h0 := h
  unfold powB at h
  simp only [Bool.and_eq_true] at h
  obtain ⟨hm, hr, hk⟩ := h
  have hr2 := inR_iff.1 hr
  obtain ⟨t, rfl⟩ : ∃ t : Nat, x = ((t + 1 : Nat) : Int) := ⟨(x - 1).toNat, by omega⟩
  rw [Int.toNat_natCast] at hk
  have hk2 : (powOk m t && mulOk (powT m t) m) = true := hk
  rw [Bool.and_eq_true] at hk2
  have hB : powB m (t : Int) = true := powB_k hm (inR_iff.2 (by omega)) hk2.1
  rw [show (((t + 1 : Nat) : Int) - 1) = (t : Int) by omega, powM_yes hB, powM_yes h0]
  have h3 := hk2.2
  unfold mulOk at h3
  simp only [Bool.and_eq_true, decide_eq_true_eq] at h3
  obtain ⟨h4, -, -, h5⟩ := h3
  have hok : mulOk m (powT m t) = true := mulOk_p hm h4 (powT_length m t).symm (by
    rw [pow_comm hm rfl]
    rw [powT_length] at h5
    exact h5)
  exact ⟨hok, by rw [mulM_yes hok]; exact pow_comm hm rfl t⟩
theorem turn_len {m : List (List Int)} (h : isMat m = true) : (turnM m).length = m.length := by rw [turnM_yes h rfl]; exact tabF_length _ _ _
theorem ent_turn {m : List (List Int)} {n i j : Nat} (h : isMat m = true) (hl : m.length = n) (hi : i < n) (hj : j < n) : ent (turnM m) i j = ent m j i := by
  rw [turnM_yes h hl]; exact ent_tabF hi hj
theorem tab_isMat {n : Nat} (h1 : 1 ≤ n) (h9 : n ≤ 9) {f : Nat → Nat → Int} (hf : ∀ i j, i < n → j < n → 0 ≤ f i j ∧ f i j ≤ 1000000) : isMat (tabF n n f) = true := by
  refine isMat_yes (tabF_length _ _ _) h1 h9 ?_
  rw [List.all_eq_true]
  intro r hr
  obtain ⟨i, hi, rfl⟩ := List.mem_map.1 hr
  rw [List.mem_range] at hi
  refine rowOk_yes (rowF_length _ _) ?_
  rw [List.all_eq_true]
  intro x hx
  obtain ⟨j, hj, rfl⟩ := List.mem_map.1 hx
  rw [List.mem_range] at hj
  exact inR_iff.2 (hf i j hi hj)
theorem turn_isMat {m : List (List Int)} (h : isMat m = true) : isMat (turnM m) = true := by
  have hb := isMat_len h
  rw [turnM_yes h rfl]
  exact tab_isMat (by omega) (by omega) fun i j hi hj => isMat_ent h hj hi
theorem mul_parts {a b : List (List Int)} (h : mulOk a b = true) : isMat a = true ∧ isMat b = true ∧ a.length = b.length ∧ isMat (prodM a b a.length) = true := by
  unfold mulOk at h
  simp only [Bool.and_eq_true, decide_eq_true_eq] at h
  exact ⟨h.1, h.2.1, h.2.2.1, h.2.2.2⟩
/-- The product turned around. -/
theorem mul_turn {a b : List (List Int)} (h : mulOk a b = true) : mulOk (turnM b) (turnM a) = true ∧ mulM (turnM b) (turnM a) = turnM (mulM a b) := by
  obtain ⟨ha, hb, hl, hp⟩ := mul_parts h
  obtain ⟨n, hn⟩ : ∃ n, a.length = n := ⟨_, rfl⟩
  have hbn : b.length = n := by omega
  rw [hn] at hp
  have e : prodM (turnM b) (turnM a) n = turnM (prodM a b n) := by
    rw [turnM_yes hp (tabF_length _ _ _)]
    apply tabF_congr
    intro p q hp' hq'
    rw [dot_sm, ent_prod hq' hp']
    exact sm_congr fun i hi => by rw [ent_turn hb hbn hp' hi, ent_turn ha hn hi hq', Int.mul_comm]
  have hok : mulOk (turnM b) (turnM a) = true := mulOk_p (turn_isMat hb) (turn_isMat ha) (by rw [turn_len hb, turn_len ha]; omega) (by rw [turn_len hb, hbn, e]; exact turn_isMat hp)
  refine ⟨hok, ?_⟩
  rw [mulM_yes hok, mulM_yes h, turn_len hb, hbn, hn]; exact e
theorem traceTo_sm {m : List (List Int)} : ∀ k, traceTo m k = sm (fun i => ent m i i) k := by
  intro k
  induction k with
  | zero => rfl
  | succ k ih => simp only [traceTo, sm]; rw [ih]; rfl
/-- The trace of a product does not depend on the order. -/
theorem mul_trace {a b : List (List Int)} (h : mulOk a b = true) (h2 : mulOk b a = true) : traceOf (mulM b a) = traceOf (mulM a b) := by
  obtain ⟨ha, hb, hl, hp⟩ := mul_parts h
  obtain ⟨-, -, -, hp2⟩ := mul_parts h2
  obtain ⟨n, hn⟩ : ∃ n, a.length = n := ⟨_, rfl⟩
  have hbn : b.length = n := by omega
  rw [mulM_yes h, mulM_yes h2]
  unfold traceOf
  rw [if_pos hp, if_pos hp2, hn, hbn]
  have l1 : (prodM a b n).length = n := tabF_length _ _ _
  have l2 : (prodM b a n).length = n := tabF_length _ _ _
  rw [l1, l2, traceTo_sm, traceTo_sm]
  have e1 : sm (fun i => ent (prodM b a n) i i) n = sm (fun i => sm (fun j => ent b i j * ent a j i) n) n := sm_congr fun i hi => ent_prod hi hi
  have e2 : sm (fun i => ent (prodM a b n) i i) n = sm (fun i => sm (fun j => ent a i j * ent b j i) n) n := sm_congr fun i hi => ent_prod hi hi
  rw [e1, e2, sm_swap]
  exact sm_congr fun i _ => sm_congr fun j _ => Int.mul_comm _ _
end Go.Proofs.YtkohadoicebojaaGreatDoor
