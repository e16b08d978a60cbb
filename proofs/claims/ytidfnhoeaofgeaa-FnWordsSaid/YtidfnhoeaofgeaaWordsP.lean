/- The plain facts of FnWords: roots repeat to the word, turns have the same least turn, factors occur and are ordered. No statement is proved here. -/
import Derived.Test.YtidfnhoeaofgeaaFacS
import Derived.Test.YtidfnhoeaofgeaaWordB
import Derived.Test.YtidfnhoeaofgeaaRoot
import Derived.Test.YtidfnhoeaofgeaaOcc
namespace Go.Proofs.Ytidfnhoeaofgeaa
open Go.RowKit Go.Deep
/-! ## roots -/
theorem root_rep (s : ByteArray) : (rootK s = 0 ∧ rootS s = ByteArray.empty) ∨ ∃ c : Nat, 1 ≤ c ∧ c ≤ 16 ∧ rootK s = (c : Int) ∧ rep (rootS s) c = s := by
  by_cases h : s.size = 0 ∨ isWord 3 s = false
  · exact .inl ⟨rootK_no h, rootS_no h⟩
  · have h0 : ¬ s.size = 0 := fun e => h (.inl e)
    have hw : isWord 3 s = true := by
      cases e : isWord 3 s
      · exact (h (.inr e)).elim
      · rfl
    obtain ⟨n, hn⟩ := root_some h0
    have h16 := isWord_size hw
    have h1 := hn.one
    have hok := hn.ok
    unfold rootC at hok
    simp only [Bool.and_eq_true, decide_eq_true_eq] at hok
    refine .inr ⟨s.size / n, ?_, ?_, rootK_yes h0 hw hn, ?_⟩
    · exact Nat.div_pos hn.le (by omega)
    · exact Nat.le_trans (Nat.div_le_self _ _) h16
    · rw [rootS_yes h0 hw hn]; exact hok.2
theorem mirror_mirror (s : ByteArray) : mirror (mirror s) = s := by
  unfold mirror
  rw [bts_str, List.reverse_reverse, str_bts]
theorem mirror_size (s : ByteArray) : (mirror s).size = s.size := by
  unfold mirror
  rw [str_size, List.length_reverse, bts_length]
/-! ## turns -/
def rot (l : List UInt8) (k : Nat) : List UInt8 := l.drop k ++ l.take k
theorem bts_turned (s : ByteArray) (k : Nat) : bts (turnedAt s k) = rot (bts s) k := by
  unfold turnedAt rot
  rw [bts_append, bts_extract, bts_extract, List.drop_zero]
  have : (bts s).take s.size = bts s := List.take_of_length_le (by rw [bts_length]; exact Nat.le_refl _)
  rw [this]
theorem rot_length (l : List UInt8) (k : Nat) : (rot l k).length = l.length := by
  unfold rot; rw [List.length_append, List.length_drop, List.length_take]; omega
theorem rot_mem (l : List UInt8) (k : Nat) (x : UInt8) : x ∈ rot l k ↔ x ∈ l := by
  unfold rot
  rw [List.mem_append, Or.comm, ← List.mem_append, List.take_append_drop]
theorem rot_rot {l : List UInt8} {i j : Nat} (hi : i ≤ l.length) (hj : j ≤ l.length) : rot (rot l i) j = if i + j ≤ l.length then rot l (i + j) else rot l (i + j - l.length) := by
  unfold rot
  by_cases h : i + j ≤ l.length
  · rw [if_pos h]
    rw [List.drop_append_of_le_length (by rw [List.length_drop]; omega), List.take_append_of_le_length (by rw [List.length_drop]; omega), List.drop_drop, List.append_assoc]
    congr 1
    have := List.take_append_drop i (l.take (i + j))
    rw [List.take_take, Nat.min_eq_left (by omega)] at this
    rw [← this]
    congr 1
    rw [List.drop_take]
    congr 1
    omega
  · rw [if_neg h]
    have e1 : (l.drop i).length = l.length - i := List.length_drop
    rw [List.drop_append, List.take_append, List.drop_of_length_le (by rw [e1]; omega), List.take_of_length_le (i := j) (by rw [e1]; omega), List.nil_append, e1]
    have e2 : j - (l.length - i) = i + j - l.length := by omega
    rw [e2]
    have hx : i + j - l.length ≤ i := by omega
    rw [List.take_take, Nat.min_eq_left hx, ← List.append_assoc]
    congr 1
    have := List.take_append_drop i (l.drop (i + j - l.length))
    rw [List.drop_drop] at this
    have h3 : List.drop (i + j - l.length) (l.take i) ++ l.drop i = (l.take i ++ l.drop i).drop (i + j - l.length) := by
      rw [List.drop_append_of_le_length (by rw [List.length_take]; omega)]
    rw [h3, List.take_append_drop]
theorem least_of {s : ByteArray} (h0 : ¬ s.size = 0) (hw : isWord 3 s = true) : (∃ k, k < s.size ∧ least s = turnedAt s k) ∧ ∀ k, k < s.size → ltS (turnedAt s k) (least s) = false := by
  have hz : (turn s 0).size = s.size := by
    rw [turn_yes h0 hw]
    have := bts_turned s (turnAt 0 s.size)
    have h2 := congrArg List.length this
    rw [bts_length, rot_length, bts_length] at h2
    exact h2
  have ht : ∀ k : Nat, k < s.size → turn s k = turnedAt s k := fun k hk => by
    have := turn_nat (s := s) (by omega) (k := k) (by omega)
    exact this.1
  have irr : ∀ a : ByteArray, ltS a a = false := fun a => decide_eq_false (List.lt_irrefl _)
  have key : ∀ m, 1 ≤ m → m ≤ s.size → (∃ k, k < m ∧ leastTo s m = turnedAt s k) ∧ ∀ k, k < m → ltS (turnedAt s k) (leastTo s m) = false := by
    intro m
    induction m with
    | zero => intro h; omega
    | succ m ih =>
      intro _ hm
      by_cases e : m = 0
      · subst e
        have e1 : leastTo s (0 + 1) = turnedAt s 0 := by
          rw [leastTo_one]; exact ht 0 (by omega)
        rw [e1]
        exact ⟨⟨0, by omega, rfl⟩, fun k hk => by obtain rfl : k = 0 := (by omega); exact irr _⟩
      · obtain ⟨⟨k, hk, e1⟩, h2⟩ := ih (by omega) (by omega)
        have e2 : leastTo s (m + 1) = minT (leastTo s m) (turnedAt s m) := by rw [leastTo, ht m (by omega)]
        rw [e2]
        cases hl : ltS (turnedAt s m) (leastTo s m)
        · rw [minT_no hl]
          exact ⟨⟨k, by omega, e1⟩, fun i hi => by
            by_cases e : i = m
            · subst e; exact hl
            · exact h2 i (by omega)⟩
        · rw [minT_yes hl]
          refine ⟨⟨m, by omega, rfl⟩, fun i hi => ?_⟩
          by_cases e : i = m
          · subst e; exact irr _
          · have h3 := h2 i (by omega)
            cases h4 : ltS (turnedAt s i) (turnedAt s m)
            · rfl
            · have a1 : bts (turnedAt s i) < bts (turnedAt s m) := of_decide_eq_true h4
              have a2 : bts (turnedAt s m) < bts (leastTo s m) := of_decide_eq_true hl
              have a3 : bts (turnedAt s i) < bts (leastTo s m) := List.lt_trans a1 a2
              have a4 : ltS (turnedAt s i) (leastTo s m) = true := decide_eq_true a3
              rw [h3] at a4; cases a4
  unfold least
  rw [hz]
  exact key s.size (by omega) (Nat.le_refl _)
theorem turned_word {s : ByteArray} {k : Nat} (h : isWord 3 s = true) : isWord 3 (turnedAt s k) = true := by
  have e := bts_turned s k
  have h2 := congrArg List.length e
  rw [bts_length, rot_length, bts_length] at h2
  unfold isWord letters at h ⊢
  rw [e, h2]
  simp only [Bool.and_eq_true, List.all_eq_true] at h ⊢
  exact ⟨fun x hx => h.1 x ((rot_mem _ _ _).1 hx), h.2⟩
theorem turned_size (s : ByteArray) (k : Nat) : (turnedAt s k).size = s.size := by
  have h2 := congrArg List.length (bts_turned s k)
  rwa [bts_length, rot_length, bts_length] at h2
theorem turned_turned {s : ByteArray} {i j : Nat} (hi : i < s.size) (hj : j < s.size) : ∃ k, k < s.size ∧ turnedAt (turnedAt s i) j = turnedAt s k := by
  have e : bts (turnedAt (turnedAt s i) j) = rot (rot (bts s) i) j := by rw [bts_turned, bts_turned]
  rw [rot_rot (by rw [bts_length]; omega) (by rw [bts_length]; omega), bts_length] at e
  by_cases h : i + j ≤ s.size
  · rw [if_pos h] at e
    by_cases h2 : i + j = s.size
    · refine ⟨0, by omega, bts_inj ?_⟩
      rw [e, bts_turned, h2]
      unfold rot
      rw [List.drop_of_length_le (by rw [bts_length]; exact Nat.le_refl _), List.take_of_length_le (by rw [bts_length]; exact Nat.le_refl _)]
      simp
    · exact ⟨i + j, by omega, bts_inj (by rw [e, bts_turned])⟩
  · rw [if_neg h] at e
    exact ⟨i + j - s.size, by omega, bts_inj (by rw [e, bts_turned])⟩
theorem turned_back {s : ByteArray} {i k : Nat} (hi : i < s.size) (hk : k < s.size) : ∃ j, j < s.size ∧ turnedAt (turnedAt s i) j = turnedAt s k := by
  have hz : ∀ m, rot (bts s) (s.size + m - s.size) = rot (bts s) m := fun m => by rw [Nat.add_sub_cancel_left]
  by_cases h : i ≤ k
  · refine ⟨k - i, by omega, bts_inj ?_⟩
    rw [bts_turned, bts_turned, rot_rot (by rw [bts_length]; omega) (by rw [bts_length]; omega), bts_length, if_pos (by omega), bts_turned]
    congr 1; omega
  · refine ⟨s.size + k - i, by omega, bts_inj ?_⟩
    rw [bts_turned, bts_turned, rot_rot (by rw [bts_length]; omega) (by rw [bts_length]; omega), bts_length]
    by_cases h2 : i + (s.size + k - i) ≤ s.size
    · rw [if_pos h2, bts_turned]
      have e1 : i + (s.size + k - i) = s.size := by omega
      have e2 : k = 0 := by omega
      rw [e1, e2]
      unfold rot
      rw [List.drop_of_length_le (by rw [bts_length]; exact Nat.le_refl _), List.take_of_length_le (by rw [bts_length]; exact Nat.le_refl _)]
      simp
    · rw [if_neg h2, bts_turned]
      congr 1; omega
theorem turn_cases (s : ByteArray) (x : Int) : turn s x = ByteArray.empty ∨ (¬ s.size = 0 ∧ isWord 3 s = true ∧ ∃ k, k < s.size ∧ turn s x = turnedAt s k) := by
  by_cases h0 : s.size = 0
  · exact .inl (turn_empty h0 x)
  · cases hw : isWord 3 s
    · exact .inl (turn_no hw x)
    · exact .inr ⟨h0, rfl, _, turnAt_lt x h0, turn_yes h0 hw x⟩
theorem turn_least {s : ByteArray} {x : Int} (h : ¬ (turn s x).size = 0) : least (turn s x) = least s ∧ (turn s x).size = s.size := by
  rcases turn_cases s x with e | ⟨h0, hw, k, hk, e⟩
  · rw [e] at h; exact (h rfl).elim
  · rw [e]
    have hz := turned_size s k
    have hw2 := turned_word (k := k) hw
    refine ⟨?_, hz⟩
    obtain ⟨⟨a, ha, ea⟩, la⟩ := least_of h0 hw
    obtain ⟨⟨b, hb, eb⟩, lb⟩ := least_of (s := turnedAt s k) (by omega) hw2
    rw [hz] at hb lb
    obtain ⟨c, hc, ec⟩ := turned_turned hk hb
    obtain ⟨d, hd, ed⟩ := turned_back hk ha
    have h1 := la c hc
    have h2 := lb d hd
    rw [← ec, ← eb] at h1
    rw [ed, ← ea] at h2
    have n1 : ¬ bts (least (turnedAt s k)) < bts (least s) := of_decide_eq_false h1
    have n2 : ¬ bts (least s) < bts (least (turnedAt s k)) := of_decide_eq_false h2
    by_cases e9 : bts (least (turnedAt s k)) = bts (least s)
    · exact bts_inj e9
    · exact (n2 (bl_trich n1 e9)).elim
/-! ## factors -/
theorem facL_facts (s : ByteArray) (n : Int) : (∀ x ∈ facL s n, occ s x = true ∧ x.size ≤ 16) ∧ ∀ j x y, (facL s n)[j]? = some x → (facL s n)[j + 1]? = some y → ltS x y = true := by
  cases h : facB s n
  · have e : facL s n = [] := by unfold facL; rw [if_neg (by rw [h]; decide)]
    rw [e]
    exact ⟨fun x hx => (by cases hx), fun j x y hx => by simp at hx⟩
  · have e : facL s n = facS s n.toNat (s.size - n.toNat + 1) := by unfold facL; rw [if_pos h]
    unfold facB at h
    simp only [Bool.and_eq_true] at h
    have h16 := isWord_16 h.1
    have hn := inR_iff.1 h.2
    have hsp := insAll_spec ((pieces s n.toNat (s.size - n.toNat + 1)).map bts)
    rw [e]
    unfold facS
    refine ⟨fun x hx => ?_, fun j x y hx hy => ?_⟩
    · obtain ⟨b, hb, rfl⟩ := List.mem_map.1 hx
      have hb2 := (hsp.2 b).1 hb
      obtain ⟨p, hp, rfl⟩ := List.mem_map.1 hb2
      rw [str_bts]
      obtain ⟨i, hi, rfl⟩ := List.mem_map.1 hp
      rw [List.mem_range] at hi
      have hz : (piece s n.toNat i).size = n.toNat := by unfold piece; rw [ByteArray.size_extract]; omega
      refine ⟨occ_yes (j := i) (by omega) ?_, by omega⟩
      rw [hz]
      exact beq_self_eq_true _
    · rw [List.getElem?_map] at hx hy
      obtain ⟨a, ha, rfl⟩ := Option.map_eq_some_iff.1 hx
      obtain ⟨b, hb, rfl⟩ := Option.map_eq_some_iff.1 hy
      obtain ⟨ha1, ha2⟩ := List.getElem?_eq_some_iff.1 ha
      obtain ⟨hb1, hb2⟩ := List.getElem?_eq_some_iff.1 hb
      have := List.pairwise_iff_getElem.1 hsp.1 j (j + 1) ha1 hb1 (by omega)
      rw [ha2, hb2] at this
      unfold ltS
      rw [bts_str, bts_str]
      exact decide_eq_true this
end Go.Proofs.Ytidfnhoeaofgeaa
