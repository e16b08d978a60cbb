/- Paths in a graph and their lengths, the period, and that powers of a primitive matrix become full: plain facts, with no program in sight. No statement is proved here. -/
import Derived.Test.YtenjakgahniijaaPeriod
import Derived.Test.YtenjakgahniijaaIrr
namespace Go.Proofs.Ytenjakgahniijaa
open Go.RowKit Go.Deep
/-- There is a path of t arcs from i to j. -/
def Pt (m : List (List Int)) (n t i j : Nat) : Prop := hv m n t i j = 1
theorem stp_one {x y z : Int} (hx : x = 0 ∨ x = 1) (hy : y = 0 ∨ y = 1) (hz : z = 0 ∨ z = 1) : stp x y z = 1 ↔ x = 1 ∨ (y = 1 ∧ z = 1) := by
  rcases hx with rfl | rfl <;> rcases hy with rfl | rfl <;> rcases hz with rfl | rfl <;> decide
theorem bit_one (x : Int) : bit x = 1 ↔ 0 < x := by
  unfold bit
  by_cases h : 0 < x
  · simp [h]
  · simp [h]
theorem acc_one {f : Nat → Nat → Int} (hf : Bits f) (m : List (List Int)) (p q : Nat) : ∀ k, acc f m p q k = 1 ↔ ∃ a, a < k ∧ f p a = 1 ∧ 0 < ent m a q := by
  intro k
  induction k with
  | zero => simp [acc]
  | succ k ih =>
    rw [acc, stp_one (acc_bits hf m p q k) (hf _ _) (bit_01 _), ih, bit_one]
    constructor
    · rintro (⟨a, h1, h2⟩ | h)
      · exact ⟨a, by omega, h2⟩
      · exact ⟨k, by omega, h⟩
    · rintro ⟨a, h1, h2⟩
      by_cases e : a = k
      · subst e; exact .inr h2
      · exact .inl ⟨a, by omega, h2⟩
theorem Pt_succ {m : List (List Int)} {n t i j : Nat} : Pt m n (t + 1) i j ↔ ∃ a, a < n ∧ Pt m n t i a ∧ 0 < ent m a j := acc_one (hv_bits m n t) m i j n
theorem Pt_zero {m : List (List Int)} {n i j : Nat} : Pt m n 0 i j ↔ i = j := by
  show unitF i j = 1 ↔ _
  unfold unitF
  by_cases h : i = j
  · simp [h]
  · simp [h]
theorem Pt_one {m : List (List Int)} {n i j : Nat} (hi : i < n) (h : 0 < ent m i j) : Pt m n 1 i j := Pt_succ.2 ⟨i, hi, Pt_zero.2 rfl, h⟩
theorem Pt_join {m : List (List Int)} {n s i a : Nat} (_ : a < n) (h : Pt m n s i a) : ∀ t j, Pt m n t a j → Pt m n (s + t) i j := by
  intro t
  induction t with
  | zero => intro j h2; rw [Pt_zero] at h2; subst h2; exact h
  | succ t ih =>
    intro j h2
    obtain ⟨b, hb, h3, h4⟩ := Pt_succ.1 h2
    exact Pt_succ.2 ⟨b, hb, ih b h3, h4⟩
/-- Reached entries of the table of reaches are paths. -/
def GoodR (m : List (List Int)) (n : Nat) (f : Nat → Nat → Int) : Prop := ∀ a b, a < n → b < n → f a b = 1 → ∃ t, 1 ≤ t ∧ Pt m n t a b
theorem wAt_good {m : List (List Int)} {n : Nat} {f : Nat → Nat → Int} (hB : Bits f) (hG : GoodR m n f) {k i j : Nat} (hk : k < n) (hi : i < n) (hj : j < n) : GoodR m n (wAt f k i j) := by
  intro a b ha hb h
  unfold wAt at h
  by_cases e : a = i ∧ b = j
  · rw [if_pos e] at h
    obtain ⟨rfl, rfl⟩ := e
    rcases (stp_one (hB _ _) (hB _ _) (hB _ _)).1 h with h | ⟨h1, h2⟩
    · exact hG _ _ ha hb h
    · obtain ⟨s, hs, h3⟩ := hG _ _ ha hk h1
      obtain ⟨t, ht, h4⟩ := hG _ _ hk hb h2
      exact ⟨s + t, by omega, Pt_join hk h3 t _ h4⟩
  · rw [if_neg e] at h
    exact hG _ _ ha hb h
theorem wRow_good {m : List (List Int)} {n : Nat} {f : Nat → Nat → Int} (hB : Bits f) (hG : GoodR m n f) {k i : Nat} (hk : k < n) (hi : i < n) : ∀ j, j ≤ n → GoodR m n (wRow f k i j) := by
  intro j
  induction j with
  | zero => intro _; exact hG
  | succ j ih => intro hj; exact wAt_good (wRow_bits hB k i j) (ih (by omega)) hk hi (by omega)
theorem wTab_good {m : List (List Int)} {n : Nat} {f : Nat → Nat → Int} (hB : Bits f) (hG : GoodR m n f) {k : Nat} (hk : k < n) : ∀ i, i ≤ n → GoodR m n (wTab n f k i) := by
  intro i
  induction i with
  | zero => intro _; exact hG
  | succ i ih => intro hi; exact wRow_good (wTab_bits n hB k i) (ih (by omega)) hk (by omega) n (Nat.le_refl _)
theorem wAll_good {m : List (List Int)} {n : Nat} {f : Nat → Nat → Int} (hB : Bits f) (hG : GoodR m n f) : ∀ k, k ≤ n → GoodR m n (wAll n f k) := by
  intro k
  induction k with
  | zero => intro _; exact hG
  | succ k ih => intro hk; exact wTab_good (wAll_bits n hB k) (ih (by omega)) (by omega) n (Nat.le_refl _)
theorem irr_mat {m : List (List Int)} (h : irr m = true) : isMat m = true := by
  unfold irr at h; rw [Bool.and_eq_true] at h; exact h.1
theorem irr_path {m : List (List Int)} {n : Nat} (h : irr m = true) (hn : m.length = n) {i j : Nat} (hi : i < n) (hj : j < n) : ∃ t, 1 ≤ t ∧ Pt m n t i j := by
  have hm := irr_mat h
  unfold irr at h
  rw [Bool.and_eq_true, reachM_yes hm hn, List.all_eq_true] at h
  have h1 := h.2 _ (List.mem_of_getElem? (tabF_get hi))
  unfold noZero at h1
  rw [List.all_eq_true] at h1
  have h2 := h1 _ (List.mem_of_getElem? (rowF_get hj))
  have h3 : wAll n (bit0 m) n i j = 1 := by
    rcases wAll_bits n (bit_bits m) n i j with e | e
    · rw [e] at h2; exact absurd h2 (by decide)
    · exact e
  refine wAll_good (m := m) (bit_bits m) (fun a b ha _ he => ⟨1, Nat.le_refl _, Pt_one ha ?_⟩) n (Nat.le_refl _) i j hi hj h3
  exact (bit_one _).1 he
/-- Lengths of closed paths, and the period. -/
theorem anyD_of {f : Nat → Nat → Int} {n i : Nat} (hi : i < n) (h : f i i = 1) : anyD f n = true := by
  unfold anyD
  rw [List.any_eq_true]
  exact ⟨i, by simpa using hi, by simpa using h⟩
theorem anyD_get {f : Nat → Nat → Int} {n : Nat} (h : anyD f n = true) : ∃ i, i < n ∧ f i i = 1 := by
  unfold anyD at h
  rw [List.any_eq_true] at h
  obtain ⟨i, hi, h⟩ := h
  exact ⟨i, by simpa using hi, by simpa using h⟩
theorem gcdI_left (a b : Int) : gcdI a b ∣ a := Int.gcd_dvd_left ..
theorem gcdI_right (a b : Int) : gcdI a b ∣ b := Int.gcd_dvd_right ..
theorem per_dvd {m : List (List Int)} {n : Nat} : ∀ {T t : Nat}, 1 ≤ t → t ≤ T → anyD (hv m n t) n = true → per m n T ∣ (t : Int) := by
  intro T
  induction T with
  | zero => intro t h1 h2; omega
  | succ T ih =>
    intro t h1 h2 h3
    unfold per
    by_cases e : t = T + 1
    · subst e
      rw [if_pos h3]
      have := gcdI_right (per m n T) ((T : Int) + 1)
      simpa using this
    · have h4 := ih h1 (by omega) h3
      split
      · exact Int.dvd_trans (gcdI_left _ _) h4
      · exact h4
/-- A difference of lengths of closed paths at vertex 0. -/
def Df (m : List (List Int)) (n : Nat) (x : Int) : Prop := ∃ a b : Nat, Pt m n a 0 0 ∧ Pt m n b 0 0 ∧ x = (a : Int) - b
theorem Df_zero (m : List (List Int)) (n : Nat) : Df m n 0 := ⟨0, 0, Pt_zero.2 rfl, Pt_zero.2 rfl, by omega⟩
theorem Df_sub {m : List (List Int)} {n : Nat} (hn : 0 < n) {x y : Int} (hx : Df m n x) (hy : Df m n y) : Df m n (x - y) := by
  obtain ⟨a, b, h1, h2, rfl⟩ := hx
  obtain ⟨c, d, h3, h4, rfl⟩ := hy
  exact ⟨a + d, b + c, Pt_join hn h1 d 0 h4, Pt_join hn h2 c 0 h3, by omega⟩
theorem Df_mul {m : List (List Int)} {n : Nat} (hn : 0 < n) {x : Int} (hx : Df m n x) : ∀ q : Nat, Df m n (x * q) := by
  intro q
  induction q with
  | zero => simpa using Df_zero m n
  | succ q ih =>
    have h := Df_sub hn ih (Df_sub hn (Df_zero m n) hx)
    have e : x * (q : Int) - (0 - x) = x * ((q + 1 : Nat) : Int) := by rw [Int.natCast_add, Int.mul_add]; omega
    rwa [e] at h
theorem Df_gcd {m : List (List Int)} {n : Nat} (hn : 0 < n) : ∀ x y : Nat, Df m n x → Df m n y → Df m n (Nat.gcd x y : Nat) := by
  intro x
  induction x using Nat.strongRecOn with
  | ind x ih =>
    intro y hx hy
    by_cases h0 : x = 0
    · subst h0; rwa [Nat.gcd_zero_left]
    · rw [Nat.gcd_rec]
      refine ih (y % x) (Nat.mod_lt _ (by omega)) x ?_ hx
      have h := Df_sub hn hy (Df_mul hn hx (y / x))
      have e : (y : Int) - (x : Int) * ((y / x : Nat) : Int) = ((y % x : Nat) : Int) := by
        have := Nat.div_add_mod y x
        have h2 : ((x * (y / x) : Nat) : Int) + ((y % x : Nat) : Int) = (y : Int) := by rw [← Int.natCast_add, this]
        rw [Int.natCast_mul] at h2
        omega
      rwa [e] at h
theorem Df_closed {m : List (List Int)} {n : Nat} (hp : ∀ i j, i < n → j < n → ∃ t, 1 ≤ t ∧ Pt m n t i j) {t i : Nat} (hi : i < n) (h : Pt m n t i i) : Df m n t := by
  have hn : 0 < n := by omega
  obtain ⟨s, -, h1⟩ := hp 0 i hn hi
  obtain ⟨r, -, h2⟩ := hp i 0 hi hn
  exact ⟨s + t + r, s + r, Pt_join hi (Pt_join hi h1 t i h) r 0 h2, Pt_join hi h1 r 0 h2, by omega⟩
theorem Df_per {m : List (List Int)} {n : Nat} (hn : 0 < n) (hp : ∀ i j, i < n → j < n → ∃ t, 1 ≤ t ∧ Pt m n t i j) : ∀ T, Df m n (per m n T) := by
  intro T
  induction T with
  | zero => exact Df_zero m n
  | succ T ih =>
    unfold per
    split
    · rename_i h
      obtain ⟨i, hi, h⟩ := anyD_get h
      have h1 := Df_closed hp hi h
      have hb := per_bd m n T
      obtain ⟨k, hk⟩ : ∃ k : Nat, per m n T = k := ⟨(per m n T).toNat, by omega⟩
      rw [hk] at ih ⊢
      have h2 := Df_gcd hn k (T + 1) ih h1
      have e : gcdI (k : Int) ((T : Int) + 1) = (Nat.gcd k (T + 1) : Nat) := by
        unfold gcdI Int.gcd
        rw [show ((T : Int) + 1).natAbs = T + 1 by omega, Int.natAbs_natCast]
      rw [e]; exact h2
    · exact ih
theorem Pt_mul {m : List (List Int)} {n : Nat} (hn : 0 < n) {b : Nat} (h : Pt m n b 0 0) : ∀ q, Pt m n (q * b) 0 0 := by
  intro q
  induction q with
  | zero => rw [Nat.zero_mul]; exact Pt_zero.2 rfl
  | succ q ih => rw [Nat.succ_mul]; exact Pt_join hn ih b 0 h
/-- All great lengths are those of closed paths. -/
theorem Pt_great {m : List (List Int)} {n : Nat} (hn : 0 < n) (h : Df m n 1) : ∃ M, ∀ N, M ≤ N → Pt m n N 0 0 := by
  obtain ⟨a, b, ha, hb, e⟩ := h
  have ea : a = b + 1 := by omega
  subst ea
  refine ⟨b * b, fun N hN => ?_⟩
  by_cases h0 : b = 0
  · subst h0
    have := Pt_mul hn ha N
    simpa using this
  · have h1 := Nat.div_add_mod N b
    have h2 := Nat.mod_lt N (show 0 < b by omega)
    have h3 : b ≤ N / b := (Nat.le_div_iff_mul_le (by omega)).2 hN
    have h4 := Pt_join hn (Pt_mul hn hb (N / b - N % b)) _ 0 (Pt_mul hn ha (N % b))
    have e : (N / b - N % b) * b + N % b * (b + 1) = N := by
      rw [Nat.sub_mul, Nat.mul_add, Nat.mul_one]
      have h5 : N % b * b ≤ N / b * b := Nat.mul_le_mul_right _ (by omega)
      have h6 : b * (N / b) = N / b * b := Nat.mul_comm _ _
      omega
    rwa [e] at h4
theorem bounded {P : Nat → Nat → Prop} : ∀ {n : Nat}, (∀ i, i < n → ∃ s, P i s) → ∃ K, ∀ i, i < n → ∃ s, s ≤ K ∧ P i s := by
  intro n
  induction n with
  | zero => intro _; exact ⟨0, fun i hi => by omega⟩
  | succ n ih =>
    intro h
    obtain ⟨K, hK⟩ := ih fun i hi => h i (by omega)
    obtain ⟨s, hs⟩ := h n (by omega)
    refine ⟨K + s, fun i hi => ?_⟩
    by_cases e : i = n
    · subst e; exact ⟨s, by omega, hs⟩
    · obtain ⟨r, h1, h2⟩ := hK i (by omega)
      exact ⟨r, by omega, h2⟩
/-- All numbers of a table are 1. -/
def fullB (f : Nat → Nat → Int) (n : Nat) : Bool := (List.range n).all fun i => (List.range n).all fun j => decide (f i j = 1)
theorem fullB_iff {f : Nat → Nat → Int} {n : Nat} : fullB f n = true ↔ ∀ i j, i < n → j < n → f i j = 1 := by
  unfold fullB
  simp only [List.all_eq_true, List.mem_range, decide_eq_true_eq]
  exact ⟨fun h i j hi hj => h i hi j hj, fun h i hi j hj => h i j hi hj⟩
def isPrim (m : List (List Int)) : Bool := irr m && decide (periodOf m = 1)
theorem full_some {m : List (List Int)} {n : Nat} (h : isPrim m = true) (hl : m.length = n) : ∃ T, 1 ≤ T ∧ fullB (hv m n T) n = true := by
  unfold isPrim at h
  rw [Bool.and_eq_true, decide_eq_true_eq] at h
  obtain ⟨hi, hp⟩ := h
  have hm := irr_mat hi
  have n1 : 0 < n := by have := (isMat_len hm).1; omega
  have path := fun i j (h1 : i < n) (h2 : j < n) => irr_path hi hl h1 h2
  have hd := Df_per n1 path (2 * n)
  have e : per m n (2 * n) = 1 := by unfold periodOf at hp; rw [if_pos hm, hl] at hp; exact hp
  rw [e] at hd
  obtain ⟨M, hM⟩ := Pt_great n1 hd
  obtain ⟨K, hK⟩ := bounded (P := fun i s => Pt m n s i 0) (n := n) fun i h1 => by obtain ⟨t, -, h2⟩ := path i 0 h1 n1; exact ⟨t, h2⟩
  obtain ⟨L, hL⟩ := bounded (P := fun j s => Pt m n s 0 j) (n := n) fun j h1 => by obtain ⟨t, -, h2⟩ := path 0 j n1 h1; exact ⟨t, h2⟩
  refine ⟨M + K + L + 1, by omega, fullB_iff.2 fun i j h1 h2 => ?_⟩
  obtain ⟨s, hs, p1⟩ := hK i h1
  obtain ⟨r, hr, p2⟩ := hL j h2
  have h3 := Pt_join n1 (Pt_join n1 p1 (M + K + L + 1 - s - r) 0 (hM _ (by omega))) r j p2
  have e2 : s + (M + K + L + 1 - s - r) + r = M + K + L + 1 := by omega
  rw [e2] at h3
  exact h3
theorem least_some {P : Nat → Prop} : ∀ {T : Nat}, 1 ≤ T → P T → ∃ L, (1 ≤ L ∧ P L) ∧ ∀ t, 1 ≤ t → t < L → ¬ P t := by
  intro T
  induction T using Nat.strongRecOn with
  | ind T ih =>
    intro h1 h2
    by_cases h : ∃ t, 1 ≤ t ∧ t < T ∧ P t
    · obtain ⟨t, a, b, c⟩ := h
      exact ih t b a c
    · exact ⟨T, ⟨h1, h2⟩, fun t a b c => h ⟨t, a, b, c⟩⟩
/-- The step: how often the loop runs. -/
def IsStep (m : List (List Int)) (L : Nat) : Prop := (1 ≤ L ∧ fullB (hv m m.length L) m.length = true) ∧ ∀ t, 1 ≤ t → t < L → ¬ fullB (hv m m.length t) m.length = true
theorem step_some {m : List (List Int)} (h : isPrim m = true) : ∃ L, IsStep m L := by
  obtain ⟨T, h1, h2⟩ := full_some h rfl
  exact least_some h1 h2
/-- A counter of the machine. -/
def ctr : Nat → Int
  | 0 => 0
  | t + 1 => wrap64 (ctr t + 1)
noncomputable def stepOf (m : List (List Int)) : Int := open Classical in if h : ∃ L, IsStep m L then ctr (Classical.choose h) else 0
noncomputable def primStep (m : List (List Int)) : Int := if isPrim m = true then stepOf m else 0
theorem primStep_no {m : List (List Int)} (h : isPrim m = false) : primStep m = 0 := if_neg (by simp [h])
theorem primStep_is {m : List (List Int)} {L : Nat} (hp : isPrim m = true) (h : IsStep m L) : primStep m = ctr L := by
  have hx : ∃ L, IsStep m L := ⟨L, h⟩
  unfold primStep stepOf
  rw [if_pos hp]
  rw [dif_pos hx]
  have h2 := Classical.choose_spec hx
  have e : Classical.choose hx = L := by
    rcases Nat.lt_trichotomy (Classical.choose hx) L with h3 | h3 | h3
    · exact absurd h2.1.2 (h.2 _ h2.1.1 h3)
    · exact h3
    · exact absurd h.1.2 (h2.2 _ h.1.1 h3)
  rw [e]
end Go.Proofs.Ytenjakgahniijaa
