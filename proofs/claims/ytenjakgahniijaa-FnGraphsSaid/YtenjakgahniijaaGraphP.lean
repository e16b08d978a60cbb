/- The plain facts of FnGraphs: the listed paths are paths, arcs are counted by the sum, what is trimmed goes on for ever. No statement is proved here. -/
import Derived.Test.YtenjakgahniijaaPathI
import Derived.Test.YtenjakgahniijaaPick
namespace Go.Proofs.Ytenjakgahniijaa
open Go.RowKit Go.Deep
/-! ## paths -/
theorem getD_app {q : List Int} {a : Int} {k : Nat} (h : k < q.length) : (q ++ [a]).getD k 0 = q.getD k 0 := by
  simp [List.getD, List.getElem?_append_left h]
theorem getD_last {q : List Int} {a : Int} : (q ++ [a]).getD q.length 0 = a := by
  simp [List.getD]
theorem lev_path (A : List (List Int)) : ∀ t p, p ∈ lev A t → pathOk A p = true := by
  intro t
  induction t with
  | zero =>
    intro p hp
    simp only [lev, List.mem_singleton] at hp
    subst hp; rfl
  | succ t ih =>
    intro p hp
    simp only [lev, List.mem_flatMap] at hp
    obtain ⟨q, hq, hp⟩ := hp
    obtain ⟨a, ha, hf, rfl⟩ := ext_mem hp
    have h1 := ih q hq
    unfold pathOk at h1 ⊢
    rw [List.all_eq_true] at h1 ⊢
    intro k hk
    rw [List.mem_range, List.length_append, List.length_singleton] at hk
    by_cases hkq : k < q.length
    · have h2 := h1 k (List.mem_range.2 hkq)
      unfold stepOk at h2 ⊢
      rw [getD_app hkq]
      by_cases h0 : k = 0
      · subst h0; simpa using h2
      · rw [getD_app (show k - 1 < q.length by omega)]; exact h2
    · have e : k = q.length := by omega
      subst e
      unfold stepOk
      rw [getD_last, inR_iff.2 (by omega : (0 : Int) ≤ (a : Int) ∧ (a : Int) ≤ (A.length : Int) - 1), Bool.true_and]
      cases q with
      | nil => rfl
      | cons x q =>
        unfold fits at hf
        rw [show (x :: q).isEmpty = false from rfl, Bool.false_or] at hf
        unfold en at hf
        rw [getD_app (show (x :: q).length - 1 < (x :: q).length by simp), Int.toNat_natCast, hf, Bool.or_true]
theorem paths_ok (m : List (List Int)) (x : Int) : ∀ p ∈ pathsOf m x, isPath m p = true ∧ (p.length : Int) = x := by
  intro p hp
  cases hB : pathsB m x
  · rw [pathsOf_no hB] at hp; cases hp
  · unfold pathsOf at hp
    rw [if_pos hB] at hp
    unfold pathsB at hB
    simp only [Bool.and_eq_true] at hB
    have hx := inR_iff.1 hB.2.1
    refine ⟨?_, ?_⟩
    · unfold isPath
      rw [hB.1, lev_path _ _ _ hp]; rfl
    · rw [lev_len hp]; omega
theorem paths_count {m : List (List Int)} {x : Int} (hg : isGr m = true) (h1 : 1 ≤ x) (h6 : x ≤ 6) (h0 : 0 ≤ countP m x) (h5 : countP m x ≤ 500) : ((pathsOf m x).length : Int) = countP m x := by
  have hB := pathsB_yes hg (inR_iff.2 ⟨h1, h6⟩) (inR_iff.2 ⟨h0, h5⟩)
  unfold pathsOf
  rw [if_pos hB]
  cases hp : powB m x
  · rw [countP_no hp] at h0; omega
  · rw [countP_yes hp]
    unfold powM
    rw [if_pos hp]
    unfold powB at hp
    simp only [Bool.and_eq_true] at hp
    obtain ⟨t, ht⟩ : ∃ t, x.toNat = t + 1 := ⟨x.toNat - 1, by omega⟩
    rw [ht] at hp ⊢
    exact lev_count hp.1 hp.2.2
theorem arcs_sum {m : List (List Int)} (hg : isGr m = true) : ((arcsOf m).length : Int) = sumOf m := by
  unfold arcsOf
  rw [if_pos hg]; exact arcs_len hg
/-! ## trimming -/
theorem frTo_ex {e : Nat → Nat → Bool} {L : Nat → Bool} {i : Nat} : ∀ {n}, frTo e L i n = true ↔ ∃ j, j < n ∧ L j = true ∧ e i j = true := by
  intro n
  induction n with
  | zero => simp [frTo]
  | succ n ih =>
    rw [frTo, Bool.or_eq_true, ih, Bool.and_eq_true]
    constructor
    · rintro (⟨j, hj, h⟩ | h)
      · exact ⟨j, by omega, h⟩
      · exact ⟨n, by omega, h⟩
    · rintro ⟨j, hj, h⟩
      by_cases e : j = n
      · subst e; exact .inr h
      · exact .inl ⟨j, by omega, h⟩
theorem toTo_ex {e : Nat → Nat → Bool} {L : Nat → Bool} {i : Nat} : ∀ {n}, toTo e L i n = true ↔ ∃ j, j < n ∧ L j = true ∧ e j i = true := by
  intro n
  induction n with
  | zero => simp [toTo]
  | succ n ih =>
    rw [toTo, Bool.or_eq_true, ih, Bool.and_eq_true]
    constructor
    · rintro (⟨j, hj, h⟩ | h)
      · exact ⟨j, by omega, h⟩
      · exact ⟨n, by omega, h⟩
    · rintro ⟨j, hj, h⟩
      by_cases e : j = n
      · subst e; exact .inr h
      · exact .inl ⟨j, by omega, h⟩
theorem lvTo_memx {L : Nat → Bool} {x : Int} : ∀ {k}, x ∈ lvTo L k ↔ ∃ j : Nat, j < k ∧ x = j ∧ L j = true := by
  intro k
  induction k with
  | zero => simp [lvTo]
  | succ k ih =>
    rw [lvTo, List.mem_append, ih]
    constructor
    · rintro (⟨j, hj, h⟩ | h)
      · exact ⟨j, by omega, h⟩
      · split at h
        · rename_i hL
          exact ⟨k, by omega, List.mem_singleton.1 h, hL⟩
        · cases h
    · rintro ⟨j, hj, rfl, hL⟩
      by_cases e : j = k
      · subst e; right; rw [if_pos hL]; exact List.mem_singleton.2 rfl
      · exact .inl ⟨j, by omega, rfl, hL⟩
theorem lvTo_full {L : Nat → Bool} : ∀ {k}, (∀ i, i < k → L i = true) → (lvTo L k).length = k := by
  intro k
  induction k with
  | zero => intro _; rfl
  | succ k ih =>
    intro h
    rw [lvTo, List.length_append, ih fun i hi => h i (by omega), if_pos (h k (by omega))]; rfl
theorem rnd_full {e : Nat → Nat → Bool} {n : Nat} (h : ∀ i, i < n → (∃ j, j < n ∧ e i j = true) ∧ ∃ j, j < n ∧ e j i = true) : ∀ t i, i < n → rnd e n t i = true := by
  intro t
  induction t with
  | zero => intro i _; rfl
  | succ t ih =>
    intro i hi
    obtain ⟨⟨a, ha, h1⟩, ⟨b, hb, h2⟩⟩ := h i hi
    rw [rnd, Bool.and_eq_true]
    refine ⟨ih i hi, ?_⟩
    unfold good
    rw [Bool.and_eq_true]
    exact ⟨frTo_ex.2 ⟨a, ha, ih a ha, h1⟩, toTo_ex.2 ⟨b, hb, ih b hb, h2⟩⟩
theorem tabF_isMat {n : Nat} (h1 : 1 ≤ n) (h9 : n ≤ 9) {f : Nat → Nat → Int} (hf : ∀ i j, i < n → j < n → 0 ≤ f i j ∧ f i j ≤ 1000000) : isMat (tabF n n f) = true := by
  unfold isMat
  rw [tabF_length, inR_iff.2 (by omega : (1 : Int) ≤ (n : Int) ∧ (n : Int) ≤ 9), Bool.true_and, List.all_eq_true]
  intro r hr
  obtain ⟨i, hi⟩ := List.getElem?_of_mem hr
  have hi2 := (List.getElem?_eq_some_iff.1 hi).1
  rw [tabF_length] at hi2
  rw [tabF_get hi2] at hi
  rw [← Option.some.inj hi]
  unfold rowOk
  rw [rowF_length, decide_eq_true rfl, Bool.true_and, List.all_eq_true]
  intro x hx
  obtain ⟨j, hj⟩ := List.getElem?_of_mem hx
  have hj2 := (List.getElem?_eq_some_iff.1 hj).1
  rw [rowF_length] at hj2
  rw [rowF_get hj2] at hj
  rw [← Option.some.inj hj]
  exact inR_iff.2 (hf i j hi2 hj2)
theorem trim_mat {m : List (List Int)} (h : trimB m = true) : isMat m = true := by
  unfold trimB at h
  exact livelyOf_mat rfl (of_decide_eq_true h)
theorem trim_len {m : List (List Int)} (h : trimB m = true) : (trimM m).length = (livelyOf m).length := by
  rw [trimM_yes h]; exact tabF_length _ _ _
theorem trim_lively {m : List (List Int)} (h : trimB m = true) : isLively (trimM m) = true := by
  have hm := trim_mat h
  have hpos : 0 < (livelyOf m).length := of_decide_eq_true h
  rw [trimM_yes h]
  obtain ⟨n, hn⟩ : ∃ n, m.length = n := ⟨_, rfl⟩
  have h9 := isMat_len hm
  have hin := livelyOf_inn m
  have hlv := livelyOf_yes hm hn
  have hpost := lv_post (nz m) n
  generalize livelyOf m = l at *
  rw [hn] at hin h9
  obtain ⟨k, hk⟩ : ∃ k, l.length = k := ⟨_, rfl⟩
  have hat : ∀ a, a < k → ∃ x : Nat, x < n ∧ l[a]? = some (x : Int) ∧ lv (nz m) n x = true := fun a ha => by
    obtain ⟨y, hy⟩ : ∃ y, l[a]? = some y := ⟨_, List.getElem?_eq_getElem (by omega)⟩
    have hmem := List.mem_of_getElem? hy
    have hmem2 : y ∈ lvTo (lv (nz m) n) n := by rw [← hlv]; exact hmem
    obtain ⟨j, hj, rfl, hL⟩ := lvTo_memx.1 hmem2
    exact ⟨j, hj, hy, hL⟩
  have hback : ∀ x : Nat, x < n → lv (nz m) n x = true → ∃ a, a < k ∧ l[a]? = some (x : Int) := fun x hx hL => by
    have hmem : (x : Int) ∈ l := by rw [hlv]; exact lvTo_memx.2 ⟨x, hx, rfl, hL⟩
    obtain ⟨a, ha⟩ := List.getElem?_of_mem hmem
    exact ⟨a, by rw [← hk]; exact (List.getElem?_eq_some_iff.1 ha).1, ha⟩
  have hval : ∀ a b x y : Nat, l[a]? = some (x : Int) → l[b]? = some (y : Int) → pickF m l a b = ent m x y := fun a b x y ha hb => by
    unfold pickF
    rw [getD_of_get ha, getD_of_get hb, Int.toNat_natCast, Int.toNat_natCast]
  rw [pickM_of hk]
  have hMat : isMat (tabF k k (pickF m l)) = true := tabF_isMat (by omega) (by have := hin.1; omega) fun a b ha hb => by
    obtain ⟨x, hx, hxa, _⟩ := hat a ha
    obtain ⟨y, hy, hyb, _⟩ := hat b hb
    rw [hval a b x y hxa hyb]
    exact isMat_ent hm (by omega) (by omega)
  have hedge : ∀ a b x y : Nat, a < k → b < k → l[a]? = some (x : Int) → l[b]? = some (y : Int) → nz m x y = true → nz (tabF k k (pickF m l)) a b = true := fun a b x y ha hb hxa hyb he => by
    unfold nz at he ⊢
    rw [ent_tabF ha hb, hval a b x y hxa hyb]; exact he
  have hfull := rnd_full (e := nz (tabF k k (pickF m l))) (n := k) fun a ha => by
    obtain ⟨x, hx, hxa, hL⟩ := hat a ha
    have hgd := hpost x hx hL
    unfold good at hgd
    rw [Bool.and_eq_true] at hgd
    obtain ⟨y, hy, hLy, hey⟩ := frTo_ex.1 hgd.1
    obtain ⟨z, hz, hLz, hez⟩ := toTo_ex.1 hgd.2
    obtain ⟨b, hb, hyb⟩ := hback y hy hLy
    obtain ⟨c, hc, hzc⟩ := hback z hz hLz
    exact ⟨⟨b, hb, hedge a b x y ha hb hxa hyb hey⟩, ⟨c, hc, hedge c a z x hc ha hzc hxa hez⟩⟩
  unfold isLively
  rw [hMat, Bool.true_and, tabF_length, livelyOf_yes hMat (tabF_length _ _ _), show lv (nz (tabF k k (pickF m l))) k = rnd (nz (tabF k k (pickF m l))) k k from rfl, lvTo_full (hfull k)]
  exact decide_eq_true rfl
theorem trim_same {m : List (List Int)} (h : trimB m = true) : isLively m = decide ((livelyOf m).length = m.length) := by
  unfold isLively
  rw [trim_mat h, Bool.true_and]
end Go.Proofs.Ytenjakgahniijaa
