/- The primitive step is bounded by the size (Wielandt): plain facts, with no program in sight. No statement is proved here. -/
import Derived.Test.YtenjakgahniijaaTurnM
import Derived.Test.YtenjakgahniijaaPow
namespace Go.Proofs.Ytenjakgahniijaa
open Go.RowKit Go.Deep
theorem Pt_mulAt {m : List (List Int)} {n b c : Nat} (hc : c < n) (h : Pt m n b c c) : ∀ q, Pt m n (q * b) c c := by
  intro q
  induction q with
  | zero => rw [Nat.zero_mul]; exact Pt_zero.2 rfl
  | succ q ih => rw [Nat.succ_mul]; exact Pt_join hc ih b c h
/-- All closed paths are at least s long: they are made of closed paths of length n, if s is n. -/
theorem closed_mult {m : List (List Int)} {n : Nat} (hmin : ∀ t i, i < n → 1 ≤ t → t < n → ¬ Pt m n t i i) : ∀ L i, i < n → Pt m n L i i → n ∣ L := by
  intro L
  induction L using Nat.strongRecOn with
  | ind L ih =>
    intro i hi h
    by_cases h0 : L = 0
    · subst h0; exact Nat.dvd_zero _
    by_cases hL : L < n
    · exact absurd h (hmin L i hi (by omega) hL)
    · obtain ⟨c, k, h1, h2, h3, h4, h5⟩ := Pt_cut hi (by omega) h
      have hcn : c = n := by
        by_cases hlt : c < n
        · exact absurd h4 (hmin c k h3 h1 hlt)
        · omega
      subst hcn
      have d2 := ih (L - c) (by omega) i hi h5
      have e : L = (L - c) + c := by omega
      rw [e]
      exact Nat.dvd_add d2 (Nat.dvd_refl _)
theorem least_ex {P : Nat → Prop} : ∀ {T : Nat}, P T → ∃ L, L ≤ T ∧ P L ∧ ∀ t, t < L → ¬ P t := by
  intro T
  induction T using Nat.strongRecOn with
  | ind T ih =>
    intro h2
    by_cases h : ∃ t, t < T ∧ P t
    · obtain ⟨t, b, c⟩ := h
      obtain ⟨L, h3, h4, h5⟩ := ih t b c
      exact ⟨L, by omega, h4, h5⟩
    · exact ⟨T, Nat.le_refl _, h2, fun t b c => h ⟨t, b, c⟩⟩
/-- A short closed path in a graph of period 1 with more than one vertex. -/
theorem short_closed {m : List (List Int)} {n : Nat} (hn : 2 ≤ n) (hd : Df m n 1) :
    ∃ s k, 1 ≤ s ∧ s < n ∧ k < n ∧ Pt m n s k k ∧ ∀ t i, i < n → 1 ≤ t → t < s → ¬ Pt m n t i i := by
  by_cases hmin : ∀ t i, i < n → 1 ≤ t → t < n → ¬ Pt m n t i i
  · obtain ⟨a, b, ha, hb, e⟩ := hd
    have d1 := closed_mult hmin a 0 (by omega) ha
    have d2 := closed_mult hmin b 0 (by omega) hb
    have ea : a = b + 1 := by omega
    subst ea
    have := (Nat.dvd_add_right d2).1 d1
    have := Nat.le_of_dvd (by omega) this
    omega
  · have hx : ∃ t, 1 ≤ t ∧ t < n ∧ ∃ i, i < n ∧ Pt m n t i i := Classical.byContradiction fun hc => hmin fun t i h1 h2 h3 h4 => hc ⟨t, h2, h3, i, h1, h4⟩
    obtain ⟨t, h1, h2, i, h3, h4⟩ := hx
    obtain ⟨s, hs, ⟨hs1, k, hk, hk2⟩, hs3⟩ := least_ex (P := fun t => 1 ≤ t ∧ ∃ i, i < n ∧ Pt m n t i i) ⟨h1, i, h3, h4⟩
    exact ⟨s, k, hs1, by omega, hk, hk2, fun t i a b c d => hs3 t c ⟨b, i, a, d⟩⟩
/-- Steps of s arcs: n - 1 of them are enough. -/
theorem far_steps {m : List (List Int)} {n s c j : Nat} (hc : c < n) (hj : j < n) : ∀ q, Pt m n (q * s) c j → ∃ d, d < n ∧ Pt m n (d * s) c j := by
  intro q
  induction q using Nat.strongRecOn with
  | ind q ih =>
    intro h
    by_cases hq : q < n
    · exact ⟨q, hq, h⟩
    · obtain ⟨f, f0, fL, fb, fs⟩ := Pt_walk hc _ j hj h
      have hle : ∀ a, a ≤ q → a * s ≤ q * s := fun a ha => Nat.mul_le_mul_right _ ha
      obtain ⟨a, b, h1, h2, h3⟩ := pigeon n (fun i => f (i * s)) fun i hi => fb _ (hle i (by omega))
      have h3' : f (a * s) = f (b * s) := h3
      have ea := hle a (by omega)
      have eb := hle b (by omega)
      have p2 := Pt_seg fb fs (a := 0) (a * s) (by omega)
      rw [Nat.zero_add, f0] at p2
      have p3 := Pt_seg fb fs (a := b * s) (q * s - b * s) (by omega)
      rw [show b * s + (q * s - b * s) = q * s by omega, fL, ← h3'] at p3
      have p4 := Pt_join (fb _ ea) p2 _ j p3
      have e : a * s + (q * s - b * s) = (q - (b - a)) * s := by
        rw [Nat.sub_mul, Nat.sub_mul]
        have := Nat.mul_le_mul_right s (show a ≤ b by omega)
        omega
      rw [e] at p4
      exact ih (q - (b - a)) (by omega) p4
/-- The vertices of a shortest closed path. -/
structure Cyc (m : List (List Int)) (n s : Nat) (f : Nat → Nat) : Prop where
  s1 : 1 ≤ s
  sn : s < n
  wrap : f s = f 0
  bd : ∀ t, t ≤ s → f t < n
  arc : ∀ t, t < s → 0 < ent m (f t) (f (t + 1))
  least : ∀ t i, i < n → 1 ≤ t → t < s → ¬ Pt m n t i i
def On (s : Nat) (f : Nat → Nat) (c : Nat) : Prop := ∃ r, r < s ∧ c = f r
section
variable {m : List (List Int)} {n s : Nat} {f : Nat → Nat}
theorem On.lt (C : Cyc m n s f) {c : Nat} (h : On s f c) : c < n := by
  obtain ⟨r, hr, rfl⟩ := h; exact C.bd r (by omega)
theorem cyc_along (C : Cyc m n s f) : ∀ e c, On s f c → ∃ c', On s f c' ∧ Pt m n e c c' := by
  intro e
  induction e with
  | zero => intro c h; exact ⟨c, h, Pt_zero.2 rfl⟩
  | succ e ih =>
    intro c h
    obtain ⟨c1, ⟨r, hr, rfl⟩, h2⟩ := ih c h
    by_cases hl : r + 1 < s
    · exact ⟨f (r + 1), ⟨r + 1, hl, rfl⟩, Pt_succ.2 ⟨f r, C.bd r (by omega), h2, C.arc r hr⟩⟩
    · have e1 : r + 1 = s := by omega
      refine ⟨f 0, ⟨0, by have := C.s1; omega, rfl⟩, Pt_succ.2 ⟨f r, C.bd r (by omega), h2, ?_⟩⟩
      have := C.arc r hr
      rwa [e1, C.wrap] at this
theorem cyc_round (C : Cyc m n s f) {c : Nat} (h : On s f c) : Pt m n s c c := by
  obtain ⟨r, hr, rfl⟩ := h
  have p1 := Pt_seg C.bd C.arc (a := r) (s - r) (by omega)
  rw [show r + (s - r) = s by omega, C.wrap] at p1
  have p2 := Pt_seg C.bd C.arc (a := 0) r (by omega)
  rw [Nat.zero_add] at p2
  have p3 := Pt_join (C.bd 0 (by omega)) p1 r (f r) p2
  rwa [show s - r + r = s by omega] at p3
/-- From everywhere the path is near. -/
theorem cyc_near (C : Cyc m n s f) {i : Nat} (hi : i < n) : ∀ L c, On s f c → Pt m n L i c → ∃ d c', d ≤ n - s ∧ On s f c' ∧ Pt m n d i c' := by
  intro L
  have s1 := C.s1
  have sn := C.sn
  induction L using Nat.strongRecOn with
  | ind L ih =>
    intro c hc h
    by_cases hL : L ≤ n - s
    · exact ⟨L, c, hL, hc, h⟩
    · obtain ⟨x, x0, xL, xb, xs⟩ := Pt_walk hi L c (On.lt C hc) h
      obtain ⟨a, b, h1, h2, h3⟩ := pigeon n (fun t => if t ≤ n - s then x t else f (t - (n - s) - 1)) fun t ht => by
        show (if t ≤ n - s then x t else f (t - (n - s) - 1)) < n
        by_cases e : t ≤ n - s
        · rw [if_pos e]; exact xb t (by omega)
        · rw [if_neg e]; exact C.bd _ (by omega)
      have h3' : (if a ≤ n - s then x a else f (a - (n - s) - 1)) = (if b ≤ n - s then x b else f (b - (n - s) - 1)) := h3
      by_cases hb : b ≤ n - s
      · rw [if_pos (show a ≤ n - s by omega), if_pos hb] at h3'
        have p2 := Pt_seg xb xs (a := 0) a (by omega)
        rw [Nat.zero_add, x0] at p2
        have p3 := Pt_seg xb xs (a := b) (L - b) (by omega)
        rw [show b + (L - b) = L by omega, xL, ← h3'] at p3
        have p4 := Pt_join (xb a (by omega)) p2 (L - b) c p3
        exact ih (a + (L - b)) (by omega) c hc p4
      · rw [if_neg hb] at h3'
        by_cases ha : a ≤ n - s
        · rw [if_pos ha] at h3'
          have p2 := Pt_seg xb xs (a := 0) a (by omega)
          rw [Nat.zero_add, x0] at p2
          exact ⟨a, x a, ha, ⟨b - (n - s) - 1, by omega, h3'⟩, p2⟩
        · rw [if_neg ha] at h3'
          have p := Pt_seg C.bd C.arc (a := a - (n - s) - 1) (b - a) (by omega)
          rw [show a - (n - s) - 1 + (b - a) = b - (n - s) - 1 by omega, ← h3'] at p
          exact absurd p (C.least (b - a) _ (C.bd _ (by omega)) (by omega) (by omega))
end
/-- Paths of one length between all vertices. -/
theorem wielandt {m : List (List Int)} {n : Nat} (hn : 2 ≤ n) (hp : ∀ i j, i < n → j < n → ∃ t, 1 ≤ t ∧ Pt m n t i j) (hd : Df m n 1) (hF : ∃ M, ∀ N, M ≤ N → ∀ i j, i < n → j < n → Pt m n N i j) :
    ∃ s, 1 ≤ s ∧ s < n ∧ ∀ i j, i < n → j < n → Pt m n (n - s + (n - 1) * s) i j := by
  obtain ⟨s, k, s1, sn, hk, hs, hmin⟩ := short_closed hn hd
  obtain ⟨f, f0, fL, fb, fs⟩ := Pt_walk hk s k hk hs
  have C : Cyc m n s f := ⟨s1, sn, by rw [fL, f0], fb, fs, hmin⟩
  refine ⟨s, s1, sn, fun i j hi hj => ?_⟩
  obtain ⟨L, -, h1⟩ := hp i (f 0) hi (fb 0 (by omega))
  obtain ⟨d, c, hd1, hc, h2⟩ := cyc_near C hi L (f 0) ⟨0, by omega, rfl⟩ h1
  obtain ⟨c', hc', h3⟩ := cyc_along C (n - s - d) c hc
  have h4 := Pt_join (On.lt C hc) h2 _ c' h3
  rw [show d + (n - s - d) = n - s by omega] at h4
  obtain ⟨M, hM⟩ := hF
  have h5 := hM (M * s) (by have := Nat.mul_le_mul_left M s1; omega) c' j (On.lt C hc') hj
  obtain ⟨e, he, h6⟩ := far_steps (On.lt C hc') hj M h5
  have h7 := Pt_join (On.lt C hc') (Pt_mulAt (On.lt C hc') (cyc_round C hc') (n - 1 - e)) _ j h6
  rw [← Nat.add_mul, show n - 1 - e + e = n - 1 by omega] at h7
  exact Pt_join (On.lt C hc') h4 _ j h7
theorem full_great {m : List (List Int)} {n : Nat} (hn : 0 < n) (path : ∀ i j, i < n → j < n → ∃ t, 1 ≤ t ∧ Pt m n t i j) (hd : Df m n 1) : ∃ M, ∀ N, M ≤ N → ∀ i j, i < n → j < n → Pt m n N i j := by
  obtain ⟨M, hM⟩ := Pt_great hn hd
  obtain ⟨K, hK⟩ := bounded (P := fun i s => Pt m n s i 0) (n := n) fun i h1 => by obtain ⟨t, -, h2⟩ := path i 0 h1 hn; exact ⟨t, h2⟩
  obtain ⟨L, hL⟩ := bounded (P := fun j s => Pt m n s 0 j) (n := n) fun j h1 => by obtain ⟨t, -, h2⟩ := path 0 j hn h1; exact ⟨t, h2⟩
  refine ⟨M + K + L, fun N hN i j h1 h2 => ?_⟩
  obtain ⟨s, hs, p1⟩ := hK i h1
  obtain ⟨r, hr, p2⟩ := hL j h2
  have h3 := Pt_join hn (Pt_join hn p1 (N - s - r) 0 (hM _ (by omega))) r j p2
  rwa [show s + (N - s - r) + r = N by omega] at h3
theorem isPrim_parts {m : List (List Int)} {n : Nat} (h : isPrim m = true) (hl : m.length = n) : isMat m = true ∧ 0 < n ∧ n ≤ 9 ∧ (∀ i j, i < n → j < n → ∃ t, 1 ≤ t ∧ Pt m n t i j) ∧ Df m n 1 := by
  unfold isPrim at h
  rw [Bool.and_eq_true, decide_eq_true_eq] at h
  obtain ⟨hi, hp⟩ := h
  have hm := irr_mat hi
  have hb := isMat_len hm
  have n1 : 0 < n := by omega
  have path := fun i j (h1 : i < n) (h2 : j < n) => irr_path hi hl h1 h2
  have hd := Df_per n1 path (2 * n)
  have e : per m n (2 * n) = 1 := by unfold periodOf at hp; rw [if_pos hm, hl] at hp; exact hp
  rw [e] at hd
  exact ⟨hm, n1, by omega, path, hd⟩
theorem step_bound {m : List (List Int)} {n L : Nat} (h : isPrim m = true) (hl : m.length = n) (hL : IsStep m L) : (L : Int) ≤ (n : Int) * n - 2 * n + 2 := by
  obtain ⟨hm, n1, n9, path, hd⟩ := isPrim_parts h hl
  have key : ∀ T, 1 ≤ T → (∀ i j, i < n → j < n → Pt m n T i j) → L ≤ T := fun T h1 h2 => by
    rcases Nat.lt_or_ge T L with h3 | h3
    · exact absurd (by rw [hl]; exact fullB_iff.2 h2) (hL.2 T h1 h3)
    · exact h3
  by_cases e : n = 1
  · subst e
    have := key 1 (Nat.le_refl _) fun i j hi hj => by
      have hi0 : i = 0 := by omega
      have hj0 : j = 0 := by omega
      subst hi0; subst hj0
      obtain ⟨t, ht, h2⟩ := path 0 0 (by omega) (by omega)
      obtain ⟨t', rfl⟩ : ∃ t', t = t' + 1 := ⟨t - 1, by omega⟩
      obtain ⟨a, ha, -, h3⟩ := Pt_succ.1 h2
      have ha0 : a = 0 := by omega
      subst ha0
      exact Pt_one (by omega) h3
    omega
  · obtain ⟨s, s1, sn, hw⟩ := wielandt (by omega) path hd (full_great n1 path hd)
    have h1 := key _ (by omega) hw
    obtain ⟨k, rfl⟩ : ∃ k, n = k + 2 := ⟨n - 2, by omega⟩
    have h2 : (k + 2 - 1) * s = k * s + s := by rw [show k + 2 - 1 = k + 1 by omega, Nat.succ_mul]
    have h3 : k * s ≤ k * (k + 1) := Nat.mul_le_mul_left _ (by omega)
    have h4 : k * (k + 1) = k * k + k := Nat.mul_succ _ _
    have h5 : L ≤ k * k + 2 * k + 2 := by omega
    have h6 : ((k + 2 : Nat) : Int) * ((k + 2 : Nat) : Int) = ((k * k : Nat) : Int) + 4 * k + 4 := by
      rw [← Int.natCast_mul, Nat.add_mul, Nat.mul_add, Nat.mul_add]; omega
    rw [h6]
    omega
theorem ctr_small : ∀ t, t ≤ 1000 → ctr t = t := by
  intro t
  induction t with
  | zero => intro _; rfl
  | succ t ih =>
    intro h
    show wrap64 (ctr t + 1) = _
    rw [ih (by omega)]
    unfold wrap64
    omega
/-- What the law asks of the primitive step. -/
theorem primStep_facts {m : List (List Int)} {n : Nat} (hm : isMat m = true) (hl : m.length = n) : ∃ q : Nat, primStep m = q ∧ q ≤ 100 ∧ (0 < (q : Int) ↔ isPrim m = true) ∧ (q : Int) ≤ (n : Int) * n - 2 * n + 2 := by
  have hb := isMat_len hm
  have hn9 : n ≤ 9 := by omega
  have hn1 : 1 ≤ n := by omega
  have hq : (n : Int) * n ≤ 81 ∧ 2 * (n : Int) ≤ (n : Int) * n + 1 := by
    obtain ⟨k, rfl⟩ : ∃ k, n = k + 1 := ⟨n - 1, by omega⟩
    have h1 : (k + 1) * (k + 1) = k * k + 2 * k + 1 := by rw [Nat.add_mul, Nat.mul_add]; omega
    have h2 : k * k ≤ 8 * 8 := Nat.mul_le_mul (by omega) (by omega)
    rw [← Int.natCast_mul, h1]; omega
  cases hp : isPrim m
  · exact ⟨0, primStep_no hp, by omega, by simp, by omega⟩
  · obtain ⟨L, hL⟩ := step_some hp
    have h2 := step_bound hp hl hL
    have h1 := hL.1.1
    refine ⟨L, ?_, by omega, by simp; omega, h2⟩
    rw [primStep_is hp hL, ctr_small L (by omega)]
/-! Powers and closed paths. -/
theorem powT_ent {m : List (List Int)} {n : Nat} (hm : isMat m = true) (hl : m.length = n) : ∀ k i j, i < n → j < n → 0 ≤ ent (powT m k) i j ∧ (0 < ent (powT m k) i j → Pt m n k i j) := by
  intro k
  induction k with
  | zero =>
    intro i j hi hj
    rw [powT_zero hl, ent_tabF hi hj]
    unfold unitF
    split
    · exact ⟨by omega, fun _ => Pt_zero.2 (by assumption)⟩
    · exact ⟨by omega, fun h => by omega⟩
  | succ k ih =>
    intro i j hi hj
    have e : ent (powT m (k + 1)) i j = dot (powT m k) m i j n := by
      show ent (prodM (powT m k) m m.length) i j = _
      rw [hl]; exact ent_tabF hi hj
    rw [e]
    have key : ∀ q, q ≤ n → 0 ≤ dot (powT m k) m i j q ∧ (0 < dot (powT m k) m i j q → Pt m n (k + 1) i j) := by
      intro q
      induction q with
      | zero => intro _; exact ⟨by simp [dot], fun h => by simp [dot] at h⟩
      | succ q ih2 =>
        intro hq
        obtain ⟨h1, h2⟩ := ih2 (by omega)
        obtain ⟨h3, h4⟩ := ih i q hi (by omega)
        have h5 := (isMat_ent hm (show q < m.length by omega) (show j < m.length by omega)).1
        have h6 := Int.mul_nonneg h3 h5
        simp only [dot]
        refine ⟨by omega, fun h => ?_⟩
        by_cases h7 : 0 < dot (powT m k) m i j q
        · exact h2 h7
        · have h8 : 0 < ent (powT m k) i q * ent m q j := by omega
          have h9 : 0 < ent (powT m k) i q := by
            rcases Int.lt_or_eq_of_le h3 with h | h
            · exact h
            · rw [← h] at h8; omega
          have h10 : 0 < ent m q j := by
            rcases Int.lt_or_eq_of_le h5 with h | h
            · exact h
            · rw [← h] at h8; omega
          exact Pt_succ.2 ⟨q, by omega, h4 h9, h10⟩
    exact key n (Nat.le_refl _)
theorem traceTo_pos {m : List (List Int)} : ∀ k, 0 < traceTo m k → ∃ i, i < k ∧ 0 < ent m i i := by
  intro k
  induction k with
  | zero => intro h; simp [traceTo] at h
  | succ k ih =>
    intro h
    have h2 : 0 < traceTo m k + ent m k k := h
    by_cases h3 : 0 < traceTo m k
    · obtain ⟨i, hi, h⟩ := ih h3
      exact ⟨i, by omega, h⟩
    · exact ⟨k, by omega, by omega⟩
theorem per_some {m : List (List Int)} {n L i : Nat} (hi : i < n) (h1 : 1 ≤ L) (h : Pt m n L i i) : 0 < per m n (2 * n) := by
  have key : ∃ c k, 1 ≤ c ∧ c ≤ n ∧ k < n ∧ Pt m n c k k := by
    by_cases hL : L ≤ n
    · exact ⟨L, i, h1, hL, hi, h⟩
    · obtain ⟨c, k, h1, h2, h3, h4, -⟩ := Pt_cut hi (by omega) h
      exact ⟨c, k, h1, h2, h3, h4⟩
  obtain ⟨c, k, h1, h2, h3, h4⟩ := key
  have d := per_dvd (m := m) (n := n) (T := 2 * n) h1 (by omega) (anyD_of h3 h4)
  have b := (per_bd m n (2 * n)).1
  by_cases e : per m n (2 * n) = 0
  · rw [e] at d
    have := Int.zero_dvd.1 d
    omega
  · omega
theorem periodOf_yes {m : List (List Int)} {n : Nat} (hm : isMat m = true) (hl : m.length = n) : periodOf m = per m n (2 * n) := by unfold periodOf; rw [if_pos hm, hl]
theorem periodOf_bd {m : List (List Int)} : 0 ≤ periodOf m ∧ periodOf m ≤ 18 := by
  unfold periodOf
  split
  · rename_i hm
    have := per_bd m m.length (2 * m.length)
    have := isMat_len hm
    omega
  · omega
/-- A positive trace of a power: the period divides the exponent. -/
theorem trace_per {m : List (List Int)} {k : Nat} (h1 : 1 ≤ k) (hB : powB m (k : Int) = true) (hT : 0 < traceOf (powM m (k : Int))) : 0 < periodOf m ∧ Int.tmod (k : Int) (periodOf m) = 0 := by
  have hm : isMat m = true := by unfold powB at hB; simp only [Bool.and_eq_true] at hB; exact hB.1
  rw [powM_yes hB] at hT
  unfold traceOf at hT
  split at hT
  · rw [powT_length] at hT
    obtain ⟨i, hi, he⟩ := traceTo_pos _ hT
    have hP := (powT_ent hm rfl k i i hi hi).2 he
    rw [periodOf_yes hm rfl]
    refine ⟨per_some hi h1 hP, ?_⟩
    exact Int.tmod_eq_zero_of_dvd (per_closed k i hi hP)
  · omega
/-! Turns and components of irreducible matrices. -/
theorem turns_arc {m : List (List Int)} {n : Nat} (hi : irr m = true) (hl : m.length = n) : 0 < periodOf m ∧ (∀ j, j < n → 0 ≤ trn m n (periodOf m) j ∧ trn m n (periodOf m) j < periodOf m) ∧ ∀ i j, i < n → j < n → 0 < ent m i j → Int.tmod (trn m n (periodOf m) i + 1 - trn m n (periodOf m) j) (periodOf m) = 0 := by
  have I := irred hi hl
  refine ⟨I.p0, fun j _ => turn_bd I j, fun i j h1 h2 h3 => ?_⟩
  have h := turn_step I h1 h2 h3
  refine Int.tmod_eq_zero_of_dvd ?_
  have h4 := Int.emod_add_mul_ediv (trn m n (periodOf m) i + 1) (periodOf m)
  rw [h] at h4
  exact ⟨(trn m n (periodOf m) i + 1) / periodOf m, by omega⟩
end Go.Proofs.Ytenjakgahniijaa
