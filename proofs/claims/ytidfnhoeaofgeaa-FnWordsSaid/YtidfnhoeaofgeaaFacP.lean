/- The different parts of a word: inserting in order, and sorting and dropping equal neighbours, give one list. Plain facts. No statement is proved here. -/
import Derived.Test.YtidfnhoeaofgeaaStrsH
import Derived.Lib.SlicesCompact
namespace Go.Proofs.Ytidfnhoeaofgeaa
open Go.RowKit Go.Deep
abbrev BL := List UInt8
def ins (x : BL) : List BL → List BL
  | [] => [x]
  | a :: l => if a < x then a :: ins x l else if a = x then a :: l else x :: a :: l
theorem ins_mem (x y : BL) : ∀ l, y ∈ ins x l ↔ y = x ∨ y ∈ l := by
  intro l
  induction l with
  | nil => simp [ins]
  | cons a l ih =>
    unfold ins
    split
    · rw [List.mem_cons, ih, List.mem_cons]; constructor
      · rintro (h | h | h)
        · exact .inr (.inl h)
        · exact .inl h
        · exact .inr (.inr h)
      · rintro (h | h | h)
        · exact .inr (.inl h)
        · exact .inl h
        · exact .inr (.inr h)
    · split
      · rename_i h1 h2
        subst h2
        rw [List.mem_cons]; constructor
        · exact fun h => .inr h
        · rintro (h | h)
          · exact .inl h
          · exact h
      · rw [List.mem_cons]
theorem bl_trich {a b : BL} (h1 : ¬ a < b) (h2 : ¬ a = b) : b < a := by
  have h3 : b ≤ a := List.not_lt.1 h1
  rcases Decidable.em (b < a) with h | h
  · exact h
  · exact absurd (List.le_antisymm (List.not_lt.1 h) h3) h2
theorem ins_sorted (x : BL) : ∀ l : List BL, l.Pairwise (· < ·) → (ins x l).Pairwise (· < ·) := by
  intro l
  induction l with
  | nil => intro _; simp [ins]
  | cons a l ih =>
    intro h
    have h0 := h
    rw [List.pairwise_cons] at h
    unfold ins
    split
    · rename_i hax
      rw [List.pairwise_cons]
      refine ⟨fun y hy => ?_, ih h.2⟩
      rcases (ins_mem x y l).1 hy with rfl | hy
      · exact hax
      · exact h.1 y hy
    · split
      · exact h0
      · rename_i h1 h2
        have hxa : x < a := bl_trich h1 h2
        rw [List.pairwise_cons]
        refine ⟨fun y hy => ?_, h0⟩
        rcases List.mem_cons.1 hy with rfl | hy
        · exact hxa
        · exact List.lt_trans hxa (h.1 y hy)
theorem ins_at (x : BL) : ∀ (l : List BL) (k : Nat), (∀ i, i < k → ∃ a, l[i]? = some a ∧ a < x) → (∀ a, l[k]? = some a → ¬ a < x) →
    (l[k]? = some x → ins x l = l) ∧ (¬ l[k]? = some x → ins x l = l.take k ++ x :: l.drop k) := by
  intro l
  induction l with
  | nil =>
    intro k h1 _
    cases k with
    | zero => exact ⟨fun h => by simp at h, fun _ => rfl⟩
    | succ k => obtain ⟨a, h, _⟩ := h1 0 (by omega); simp at h
  | cons b l ih =>
    intro k h1 h2
    cases k with
    | zero =>
      have hb := h2 b rfl
      constructor
      · intro h
        simp only [List.getElem?_cons_zero, Option.some.injEq] at h
        subst h
        unfold ins; rw [if_neg hb, if_pos rfl]
      · intro h
        have hne : ¬ b = x := fun e => h (by rw [e]; rfl)
        unfold ins; rw [if_neg hb, if_neg hne]; rfl
    | succ k =>
      have hb : b < x := by
        obtain ⟨a, h, h3⟩ := h1 0 (by omega)
        simp only [List.getElem?_cons_zero, Option.some.injEq] at h
        subst h; exact h3
      have := ih k (fun i hi => h1 (i + 1) (by omega)) h2
      constructor
      · intro h
        unfold ins; rw [if_pos hb, this.1 h]
      · intro h
        unfold ins; rw [if_pos hb, this.2 h]; rfl
theorem bl_irrefl (a : BL) : ¬ a < a := List.lt_irrefl a
/-- Two lists in strict order with the same elements are one list. -/
theorem sorted_unique : ∀ (l m : List BL), l.Pairwise (· < ·) → m.Pairwise (· < ·) → (∀ x, x ∈ l ↔ x ∈ m) → l = m := by
  intro l
  induction l with
  | nil =>
    intro m _ _ h
    cases m with
    | nil => rfl
    | cons b m => have := (h b).2 (by simp); cases this
  | cons a l ih =>
    intro m hl hm h
    cases m with
    | nil => have := (h a).1 (by simp); cases this
    | cons b m =>
      rw [List.pairwise_cons] at hl hm
      have hab : a = b := by
        rcases List.mem_cons.1 ((h a).1 (by simp)) with e | h1
        · exact e
        · rcases List.mem_cons.1 ((h b).2 (by simp)) with e | h2
          · exact e.symm
          · exact absurd (List.lt_trans (hm.1 a h1) (hl.1 b h2)) (bl_irrefl b)
      subst hab
      congr 1
      refine ih m hl.2 hm.2 fun x => ?_
      constructor
      · intro hx
        rcases List.mem_cons.1 ((h x).1 (List.mem_cons_of_mem _ hx)) with e | h1
        · subst e; exact absurd (hl.1 x hx) (bl_irrefl x)
        · exact h1
      · intro hx
        rcases List.mem_cons.1 ((h x).2 (List.mem_cons_of_mem _ hx)) with e | h1
        · subst e; exact absurd (hm.1 x hx) (bl_irrefl x)
        · exact h1
theorem compactTo_spec (d : Array BL) (hd : ∀ i j, i ≤ j → j < d.size → d[i]! ≤ d[j]!) : ∀ m, m ≤ d.size →
    (Lib.compactUpTo d m).Pairwise (· < ·) ∧ (∀ x, x ∈ Lib.compactUpTo d m ↔ ∃ j, j < m ∧ d[j]! = x) ∧ (∀ x ∈ Lib.compactUpTo d m, 0 < m → x ≤ d[m - 1]!) := by
  intro m
  induction m with
  | zero =>
    intro _
    refine ⟨by simp [Lib.compactUpTo], fun x => ?_, fun x hx => by simp [Lib.compactUpTo] at hx⟩
    simp [Lib.compactUpTo]
  | succ m ih =>
    intro hm
    obtain ⟨h1, h2, h3⟩ := ih (by omega)
    rw [Lib.compactUpTo_succ]
    have hall : ∀ x ∈ Lib.compactUpTo d m, x ≤ d[m]! := fun x hx => by
      obtain ⟨j, hj, rfl⟩ := (h2 x).1 hx
      exact hd j m (by omega) (by omega)
    cases hk : Lib.keeps d m
    · simp only [Bool.false_eq_true, if_false, List.append_nil]
      have hk2 : 0 < m ∧ d[m]! = d[m - 1]! := by
        unfold Lib.keeps at hk
        have := of_decide_eq_false hk
        by_cases h0 : m = 0
        · exact absurd (.inl h0) this
        · refine ⟨by omega, ?_⟩
          exact Decidable.not_not.1 fun hne => this (.inr hne)
      refine ⟨h1, fun x => ?_, fun x hx _ => hall x hx⟩
      rw [h2]
      constructor
      · rintro ⟨j, hj, e⟩; exact ⟨j, by omega, e⟩
      · rintro ⟨j, hj, e⟩
        by_cases hjm : j = m
        · subst hjm; exact ⟨j - 1, by omega, by rw [← e, hk2.2]⟩
        · exact ⟨j, by omega, e⟩
    · simp only [if_true]
      refine ⟨?_, fun x => ?_, fun x hx _ => ?_⟩
      · rw [List.pairwise_append]
        refine ⟨h1, List.pairwise_singleton _ _, fun a ha b hb => ?_⟩
        simp only [List.mem_singleton] at hb
        subst hb
        by_cases h0 : m = 0
        · subst h0; simp [Lib.compactUpTo] at ha
        · have hne : d[m]! ≠ d[m - 1]! := by
            unfold Lib.keeps at hk
            rcases of_decide_eq_true hk with h | h
            · exact absurd h h0
            · exact h
          have hle := h3 a ha (by omega)
          have hle2 := hd (m - 1) m (by omega) (by omega)
          have hlt : d[m - 1]! < d[m]! := bl_trich (fun h => absurd (List.not_lt.2 hle2) (by simpa using h)) (fun e => hne e)
          rcases Decidable.em (a < d[m]!) with h | h
          · exact h
          · exact absurd (List.le_antisymm (hall a ha) (List.not_lt.1 h)) (fun e => by rw [e] at hle; exact absurd hlt (List.not_lt.2 hle))
      · rw [List.mem_append, h2, List.mem_singleton]
        constructor
        · rintro (⟨j, hj, e⟩ | e)
          · exact ⟨j, by omega, e⟩
          · exact ⟨m, by omega, e.symm⟩
        · rintro ⟨j, hj, e⟩
          by_cases hjm : j = m
          · subst hjm; exact .inr e.symm
          · exact .inl ⟨j, by omega, e⟩
      · rw [List.mem_append, List.mem_singleton] at hx
        rcases hx with hx | hx
        · exact hall x hx
        · rw [hx]; exact List.le_refl _
def leB (x y : BL) : Bool := decide (x ≤ y)
/-- Sorted, without equal neighbours. -/
def dif (l : List BL) : List BL := Lib.compact (l.mergeSort fun x y => decide (x ≤ y))
theorem dif_spec (l : List BL) : (dif l).Pairwise (· < ·) ∧ ∀ x, x ∈ dif l ↔ x ∈ l := by
  have tr : ∀ a b c : BL, decide (a ≤ b) = true → decide (b ≤ c) = true → decide (a ≤ c) = true := fun a b c h1 h2 => by simp only [decide_eq_true_eq] at *; exact List.le_trans h1 h2
  have to : ∀ a b : BL, (decide (a ≤ b) || decide (b ≤ a)) = true := fun a b => by simp only [Bool.or_eq_true, decide_eq_true_eq]; exact List.le_total a b
  have hs := List.pairwise_mergeSort tr to l
  have hp := List.mergeSort_perm l fun x y => decide (x ≤ y)
  obtain ⟨z, hz⟩ : ∃ z, (l.mergeSort fun x y => decide (x ≤ y)) = z := ⟨_, rfl⟩
  rw [hz] at hs hp
  have hd : ∀ i j, i ≤ j → j < z.toArray.size → z.toArray[i]! ≤ z.toArray[j]! := by
    intro i j hij hj
    have hj' : j < z.length := by simpa using hj
    rw [getElem!_pos z.toArray i (by simp; omega), getElem!_pos z.toArray j (by simpa using hj')]
    simp only [List.getElem_toArray]
    by_cases e : i = j
    · subst e; exact List.le_refl _
    · have := List.pairwise_iff_getElem.1 hs i j (by omega) hj' (by omega)
      simpa using this
  have h := compactTo_spec z.toArray hd z.length (by simp)
  have e : dif l = Lib.compactUpTo z.toArray z.length := by unfold dif Lib.compact; rw [hz]
  rw [e]
  refine ⟨h.1, fun x => ?_⟩
  rw [h.2.1, ← hp.mem_iff]
  constructor
  · rintro ⟨j, hj, e⟩
    rw [getElem!_pos z.toArray j (by simpa using hj)] at e
    simp only [List.getElem_toArray] at e
    rw [← e]; exact List.getElem_mem hj
  · intro hx
    obtain ⟨j, hj, e⟩ := List.getElem_of_mem hx
    refine ⟨j, hj, ?_⟩
    rw [getElem!_pos z.toArray j (by simpa using hj)]
    simpa using e
/-- All inserted, one after the other. -/
def insAll (l : List BL) : List BL := l.foldl (fun m x => ins x m) []
theorem insAll_snoc (l : List BL) (x : BL) : insAll (l ++ [x]) = ins x (insAll l) := by simp [insAll]
theorem insAll_spec (l : List BL) : (insAll l).Pairwise (· < ·) ∧ ∀ x, x ∈ insAll l ↔ x ∈ l := by
  have key : ∀ (l m : List BL), m.Pairwise (· < ·) → (l.foldl (fun m x => ins x m) m).Pairwise (· < ·) ∧ ∀ x, x ∈ l.foldl (fun m x => ins x m) m ↔ x ∈ l ∨ x ∈ m := by
    intro l
    induction l with
    | nil => intro m hm; exact ⟨hm, fun x => by simp⟩
    | cons a l ih =>
      intro m hm
      obtain ⟨h1, h2⟩ := ih (ins a m) (ins_sorted a m hm)
      refine ⟨h1, fun x => ?_⟩
      rw [List.foldl_cons, h2, ins_mem, List.mem_cons]
      constructor
      · rintro (h | h | h)
        · exact .inl (.inr h)
        · exact .inl (.inl h)
        · exact .inr h
      · rintro ((h | h) | h)
        · exact .inr (.inl h)
        · exact .inl h
        · exact .inr (.inr h)
  have := key l [] List.Pairwise.nil
  exact ⟨this.1, fun x => by rw [insAll, this.2]; simp⟩
theorem dif_insAll (l : List BL) : dif l = insAll l := sorted_unique _ _ (dif_spec l).1 (insAll_spec l).1 fun x => by rw [(dif_spec l).2, (insAll_spec l).2]
theorem insAll_len (l : List BL) : (insAll l).length ≤ l.length := by
  have key : ∀ x (m : List BL), (ins x m).length ≤ m.length + 1 := by
    intro x m
    induction m with
    | nil => simp [ins]
    | cons a m ih =>
      unfold ins
      by_cases h1 : a < x
      · rw [if_pos h1, List.length_cons, List.length_cons]; omega
      · rw [if_neg h1]
        by_cases h2 : a = x
        · rw [if_pos h2]; omega
        · rw [if_neg h2]; simp
  have : ∀ (l m : List BL), (l.foldl (fun m x => ins x m) m).length ≤ l.length + m.length := by
    intro l
    induction l with
    | nil => intro m; simp
    | cons a l ih => intro m; rw [List.foldl_cons]; have h1 := ih (ins a m); have h2 := key a m; simp; omega
  have h := this l []
  simpa [insAll] using h
end Go.Proofs.Ytidfnhoeaofgeaa
