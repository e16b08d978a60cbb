/- Plain facts on the table of reaches and on components; contracts of ComponentsOf. No statement is proved here. -/
import Derived.Test.YtkohadoicebojaaGreatDoorReachS
import Derived.Test.YtkohadoicebojaaGreatDoorApp2
namespace Go.Proofs.YtkohadoicebojaaGreatDoor
open Go.RowKit Go.Deep
/-! The table of reaches is closed under two steps. -/
theorem stp_or {x y z : Int} (hx : x = 0 ∨ x = 1) (hy : y = 0 ∨ y = 1) (hz : z = 0 ∨ z = 1) : stp x y z = 1 ↔ x = 1 ∨ (y = 1 ∧ z = 1) := by
  rcases hx with rfl | rfl <;> rcases hy with rfl | rfl <;> rcases hz with rfl | rfl <;> decide
theorem stp_self1 {x z : Int} (hx : x = 0 ∨ x = 1) (hz : z = 0 ∨ z = 1) : stp x x z = x := by
  rcases hx with rfl | rfl <;> rcases hz with rfl | rfl <;> decide
theorem stp_self2 {x z : Int} (hx : x = 0 ∨ x = 1) (hz : z = 0 ∨ z = 1) : stp x z x = x := by
  rcases hx with rfl | rfl <;> rcases hz with rfl | rfl <;> decide
/-- Within stage k neither row k nor column k turns. -/
theorem wRow_keeps {f : Nat → Nat → Int} (hf : Bits f) (k i : Nat) : ∀ j, (∀ b, wRow f k i j k b = f k b) ∧ (∀ a, wRow f k i j a k = f a k) := by
  intro j
  induction j with
  | zero => exact ⟨fun _ => rfl, fun _ => rfl⟩
  | succ j ih =>
    have hb := wRow_bits hf k i j
    refine ⟨fun b => ?_, fun a => ?_⟩
    · show wAt (wRow f k i j) k i j k b = f k b
      unfold wAt
      by_cases e : k = i ∧ b = j
      · obtain ⟨rfl, rfl⟩ := e
        rw [if_pos ⟨rfl, rfl⟩, stp_self2 (hb _ _) (hb _ _), ih.1]
      · rw [if_neg e, ih.1]
    · show wAt (wRow f k i j) k i j a k = f a k
      unfold wAt
      by_cases e : a = i ∧ k = j
      · obtain ⟨rfl, rfl⟩ := e
        rw [if_pos ⟨rfl, rfl⟩, stp_self1 (hb _ _) (hb _ _), ih.2]
      · rw [if_neg e, ih.2]
theorem wRow_val {f : Nat → Nat → Int} (hf : Bits f) (k i : Nat) : ∀ j a b, wRow f k i j a b = if a = i ∧ b < j then stp (f a b) (f a k) (f k b) else f a b := by
  intro j
  induction j with
  | zero => intro a b; rw [if_neg (by omega)]; rfl
  | succ j ih =>
    intro a b
    show wAt (wRow f k i j) k i j a b = _
    unfold wAt
    by_cases e : a = i ∧ b = j
    · obtain ⟨rfl, rfl⟩ := e
      rw [if_pos ⟨rfl, rfl⟩, if_pos ⟨rfl, by omega⟩, (wRow_keeps hf k a b).1, (wRow_keeps hf k a b).2, ih, if_neg (by omega)]
    · rw [if_neg e, ih]
      by_cases e2 : a = i ∧ b < j
      · rw [if_pos e2, if_pos (by omega)]
      · rw [if_neg e2, if_neg (by omega)]
theorem wTab_keeps {f : Nat → Nat → Int} (hf : Bits f) (n k : Nat) : ∀ i, (∀ b, wTab n f k i k b = f k b) ∧ (∀ a, wTab n f k i a k = f a k) := by
  intro i
  induction i with
  | zero => exact ⟨fun _ => rfl, fun _ => rfl⟩
  | succ i ih =>
    have h := wRow_keeps (wTab_bits n hf k i) k i n
    exact ⟨fun b => (h.1 b).trans (ih.1 b), fun a => (h.2 a).trans (ih.2 a)⟩
theorem wTab_val {f : Nat → Nat → Int} (hf : Bits f) (n k : Nat) : ∀ i a b, wTab n f k i a b = if a < i ∧ b < n then stp (f a b) (f a k) (f k b) else f a b := by
  intro i
  induction i with
  | zero => intro a b; rw [if_neg (by omega)]; rfl
  | succ i ih =>
    intro a b
    show wRow (wTab n f k i) k i n a b = _
    rw [wRow_val (wTab_bits n hf k i), (wTab_keeps hf n k i).1, (wTab_keeps hf n k i).2, ih]
    by_cases e : a = i ∧ b < n
    · rw [if_pos e, if_neg (by omega), if_pos (by omega)]
    · rw [if_neg e]
      by_cases e2 : a < i ∧ b < n
      · rw [if_pos e2, if_pos (by omega)]
      · rw [if_neg e2, if_neg (by omega)]
/-- Two steps by way of a vertex below k are one. -/
def Tr (n k : Nat) (f : Nat → Nat → Int) : Prop := ∀ a b c, a < n → b < n → c < k → f a c = 1 → f c b = 1 → f a b = 1
theorem wAll_tr {f : Nat → Nat → Int} (hf : Bits f) (n : Nat) : ∀ k, k ≤ n → Tr n k (wAll n f k) := by
  intro k
  induction k with
  | zero => intro _ a b c _ _ hc; omega
  | succ k ih =>
    intro hk a b c ha hb hc h1 h2
    have T := ih (by omega)
    have hB := wAll_bits n hf k
    have val : ∀ p q, p < n → q < n → (wAll n f (k + 1) p q = 1 ↔ wAll n f k p q = 1 ∨ (wAll n f k p k = 1 ∧ wAll n f k k q = 1)) := by
      intro p q hp hq
      show wTab n (wAll n f k) k n p q = 1 ↔ _
      rw [wTab_val hB, if_pos ⟨hp, hq⟩, stp_or (hB _ _) (hB _ _) (hB _ _)]
    have hkn : k < n := by omega
    rw [val a b ha hb]
    rw [val a c ha (by omega)] at h1
    rw [val c b (by omega) hb] at h2
    by_cases e : c = k
    · subst e
      have h1' : wAll n f c a c = 1 := h1.elim id fun h => h.1
      have h2' : wAll n f c c b = 1 := h2.elim id fun h => h.2
      exact .inr ⟨h1', h2'⟩
    · have hck : c < k := by omega
      rcases h1 with h1 | ⟨h1, h1'⟩ <;> rcases h2 with h2 | ⟨h2, h2'⟩
      · exact .inl (T a b c ha hb hck h1 h2)
      · exact .inr ⟨T a k c ha hkn hck h1 h2, h2'⟩
      · exact .inr ⟨h1, T k b c hkn hb hck h1' h2⟩
      · exact .inr ⟨h1, h2'⟩
def rF (m : List (List Int)) (n : Nat) : Nat → Nat → Int := wAll n (bit0 m) n
theorem rF_bits (m : List (List Int)) (n : Nat) : Bits (rF m n) := wAll_bits n (bit_bits m) n
theorem rF_tr (m : List (List Int)) (n : Nat) : Tr n n (rF m n) := wAll_tr (bit_bits m) n n (Nat.le_refl _)
/-! Components -/
def both (R : Nat → Nat → Int) (i j : Nat) : Bool := decide (R i j = 1) && decide (R j i = 1)
def clsTo (R : Nat → Nat → Int) (i : Nat) : Nat → List Int
  | 0 => []
  | j + 1 => clsTo R i j ++ (if both R i j = true then [(j : Int)] else [])
def isHd (R : Nat → Nat → Int) (n i : Nat) : Bool := match clsTo R i n with
  | [] => false
  | x :: _ => x == (i : Int)
def compTo (R : Nat → Nat → Int) (n : Nat) : Nat → List (List Int)
  | 0 => []
  | i + 1 => compTo R n i ++ (if isHd R n i = true then [clsTo R i n] else [])
def compsOf (m : List (List Int)) : List (List Int) := if isMat m = true then compTo (rF m m.length) m.length m.length else []
theorem both_iff {R : Nat → Nat → Int} {i j : Nat} : both R i j = true ↔ R i j = 1 ∧ R j i = 1 := by simp [both]
theorem both_sym (R : Nat → Nat → Int) (i j : Nat) : both R i j = both R j i := by unfold both; rw [Bool.and_comm]
theorem both_tr {R : Nat → Nat → Int} {n i j k : Nat} (hT : Tr n n R) (hi : i < n) (hj : j < n) (hk : k < n) (h : both R i j = true) (h2 : both R j k = true) : both R i k = true := by
  rw [both_iff] at *; exact ⟨hT i k j hi hk hj h.1 h2.1, hT k i j hk hi hj h2.2 h.2⟩
theorem clsTo_len (R : Nat → Nat → Int) (i : Nat) : ∀ j, (clsTo R i j).length ≤ j := by
  intro j
  induction j with
  | zero => simp [clsTo]
  | succ j ih => simp only [clsTo, List.length_append]; split <;> simp <;> omega
theorem clsTo_none {R : Nat → Nat → Int} {i : Nat} : ∀ {j : Nat}, (∀ k, k < j → both R i k = false) → clsTo R i j = [] := by
  intro j
  induction j with
  | zero => intro _; rfl
  | succ j ih => intro h; simp only [clsTo, ih fun k hk => h k (by omega), h j (by omega)]; rfl
theorem clsTo_first {R : Nat → Nat → Int} {i k0 : Nat} (h0 : both R i k0 = true) (hn : ∀ k, k < k0 → both R i k = false) : ∀ {j : Nat}, k0 < j → ∃ l, clsTo R i j = (k0 : Int) :: l := by
  intro j
  induction j with
  | zero => intro h; omega
  | succ j ih =>
    intro h
    by_cases e : k0 = j
    · subst e; exact ⟨[], by simp only [clsTo, clsTo_none hn, h0]; rfl⟩
    · obtain ⟨l, hl⟩ := ih (by omega)
      exact ⟨_, by simp only [clsTo, hl]; rfl⟩
theorem first_ex {R : Nat → Nat → Int} {i : Nat} : ∀ j, both R i j = true → ∃ k, k ≤ j ∧ both R i k = true ∧ ∀ q, q < k → both R i q = false := by
  intro j
  induction j using Nat.strongRecOn with
  | _ j ih =>
    intro h
    by_cases e : ∃ q, q < j ∧ both R i q = true
    · obtain ⟨q, hq, hm⟩ := e
      obtain ⟨k, hk, h1, h2⟩ := ih q hq hm
      exact ⟨k, by omega, h1, h2⟩
    · refine ⟨j, Nat.le_refl _, h, fun q hq => ?_⟩
      cases hm : both R i q
      · rfl
      · exact absurd ⟨q, hq, hm⟩ e
theorem isHd_iff {R : Nat → Nat → Int} {n i : Nat} (hi : i < n) : isHd R n i = true ↔ both R i i = true ∧ ∀ k, k < i → both R i k = false := by
  constructor
  · intro h
    by_cases e : ∃ q, q < n ∧ both R i q = true
    · obtain ⟨q, hq, hm⟩ := e
      obtain ⟨k, hk, h1, h2⟩ := first_ex q hm
      obtain ⟨l, hl⟩ := clsTo_first h1 h2 (show k < n by omega)
      unfold isHd at h
      rw [hl] at h
      have hki2 : (k : Int) = i := by simpa using h
      have hki : k = i := by omega
      subst hki
      exact ⟨h1, h2⟩
    · have : clsTo R i n = [] := clsTo_none fun k hk => by
        cases hm : both R i k
        · rfl
        · exact absurd ⟨k, hk, hm⟩ e
      unfold isHd at h
      rw [this] at h
      cases h
  · rintro ⟨h1, h2⟩
    obtain ⟨l, hl⟩ := clsTo_first h1 h2 hi
    unfold isHd
    rw [hl]
    simp
/-- Which vertices lie in a component that begins below i. -/
def seenF (R : Nat → Nat → Int) (n : Nat) : Nat → Nat → Bool
  | 0, _ => false
  | i + 1, j => seenF R n i j || (isHd R n i && both R i j)
theorem seenF_iff {R : Nat → Nat → Int} {n j : Nat} : ∀ {i : Nat}, seenF R n i j = true ↔ ∃ a, a < i ∧ isHd R n a = true ∧ both R a j = true := by
  intro i
  induction i with
  | zero => simp [seenF]
  | succ i ih =>
    simp only [seenF, Bool.or_eq_true, Bool.and_eq_true, ih]
    constructor
    · rintro (⟨a, h1, h2, h3⟩ | ⟨h2, h3⟩)
      · exact ⟨a, by omega, h2, h3⟩
      · exact ⟨i, by omega, h2, h3⟩
    · rintro ⟨a, h1, h2, h3⟩
      by_cases e : a = i
      · subst e; exact .inr ⟨h2, h3⟩
      · exact .inl ⟨a, by omega, h2, h3⟩
theorem isHd_seen {R : Nat → Nat → Int} {n i : Nat} (hB : Bits R) (hT : Tr n n R) (hi : i < n) : isHd R n i = true ↔ seenF R n i i = false ∧ ¬ R i i = 0 := by
  have hRi : both R i i = true ↔ ¬ R i i = 0 := by rw [both_iff]; rcases hB i i with h | h <;> rw [h] <;> simp
  rw [isHd_iff hi, hRi]
  constructor
  · rintro ⟨h1, h2⟩
    refine ⟨?_, h1⟩
    cases hs : seenF R n i i
    · rfl
    · obtain ⟨a, ha, _, hm⟩ := seenF_iff.1 hs
      rw [both_sym, h2 a ha] at hm
      cases hm
  · rintro ⟨h1, h2⟩
    refine ⟨h2, fun k hk => ?_⟩
    cases hm : both R i k
    · rfl
    · obtain ⟨j, hj, g1, g2⟩ := first_ex k hm
      have hji : both R j i = true := by rw [both_sym]; exact g1
      have hjj : both R j j = true := both_tr hT (by omega) hi (by omega) hji g1
      have hh : isHd R n j = true := (isHd_iff (by omega)).2 ⟨hjj, fun q hq => by
        cases hq2 : both R j q
        · rfl
        · have := both_tr hT hi (by omega) (show q < n by omega) g1 hq2
          rw [g2 q hq] at this
          exact this.symm⟩
      rw [seenF_iff.2 ⟨j, by omega, hh, hji⟩] at h1
      cases h1
theorem compTo_len (R : Nat → Nat → Int) (n : Nat) : ∀ i, (compTo R n i).length ≤ i ∧ total (compTo R n i) ≤ i * n := by
  intro i
  induction i with
  | zero => simp [compTo, total]
  | succ i ih =>
    have hc := clsTo_len R i n
    have e : ∀ a b : List (List Int), total (a ++ b) = total a + total b := fun a b => by simp [total]
    simp only [compTo, List.length_append, e, Nat.succ_mul]
    split
    · have e1 : total [clsTo R i n] = (clsTo R i n).length := by simp [total]
      rw [e1]
      simp only [List.length_singleton]
      omega
    · have e1 : total ([] : List (List Int)) = 0 := rfl
      rw [e1]
      simp only [List.length_nil]
      omega
theorem compsOf_yes {m : List (List Int)} (h : isMat m = true) {n : Nat} (hn : m.length = n) : compsOf m = compTo (rF m n) n n := by subst hn; exact if_pos h
theorem compsOf_no {m : List (List Int)} (h : isMat m = false) : compsOf m = [] := if_neg (by simp [h])
theorem compsOf_size (m : List (List Int)) : (compsOf m).length + total (compsOf m) ≤ 4000000 := by
  cases h : isMat m
  · rw [compsOf_no h]; decide
  · have h9 := (isMat_len h).2
    have hl := compTo_len (rF m m.length) m.length m.length
    have : m.length * m.length ≤ 9 * 9 := Nat.mul_le_mul h9 h9
    unfold compsOf; rw [if_pos h]; omega
theorem reachM_rF {m : List (List Int)} (h : isMat m = true) {n : Nat} (hn : m.length = n) : reachM m = tabF n n (rF m n) := reachM_yes h hn
end Go.Proofs.YtkohadoicebojaaGreatDoor
