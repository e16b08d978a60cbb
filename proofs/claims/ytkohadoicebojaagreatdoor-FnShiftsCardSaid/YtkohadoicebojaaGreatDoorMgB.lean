/- Contracts and plain facts that the law needs, from several texts. No statement is proved here. -/
import Derived.Test.YtkohadoicebojaaGreatDoorStrsH
import Derived.Test.YtkohadoicebojaaGreatDoorWordA
import Derived.Test.YtkohadoicebojaaGreatDoorApp
import Derived.Test.YtkohadoicebojaaGreatDoorAppL
import Derived.Test.YtkohadoicebojaaGreatDoorNum
import Derived.Test.YtkohadoicebojaaGreatDoorJoin
import Derived.Test.YtkohadoicebojaaGreatDoorMatA
import Derived.Test.YtkohadoicebojaaGreatDoorShift
import Derived.Test.YtkohadoicebojaaGreatDoorStepApp
import Derived.Test.YtkohadoicebojaaGreatDoorAppLs
import Derived.Test.YtkohadoicebojaaGreatDoorParseI
import Derived.Test.YtkohadoicebojaaGreatDoorTab
import Derived.Test.YtkohadoicebojaaGreatDoorApp2
import Derived.Test.YtkohadoicebojaaGreatDoorMgA
import Derived.Test.YtkohadoicebojaaGreatDoorMatD
import Derived.Lib.SlicesCompact
import Derived.Deep.RegionLaw
import Derived.Deep.AppendLies
import Derived.Deep.RegionHeld3
namespace Go.Proofs.YtkohadoicebojaaGreatDoor
open Go.RowKit Go.Deep
abbrev BL := List UInt8
def ins (x : BL) : List BL → List BL
  | [] => [x]
  | a :: l => if a < x then a :: ins x l else if a = x then a :: l else x :: a :: l
theorem ins_mem (x y : BL) : ∀ l, y ∈ ins x l ↔ y = x ∨ y ∈ l := by
  intro l
  induction l with
  | nil => simp [ins]
  | cons a l ih =>
    unfold ins
    split
    · rw [List.mem_cons, ih, List.mem_cons]; constructor
      · rintro (h | h | h)
        · exact .inr (.inl h)
        · exact .inl h
        · exact .inr (.inr h)
      · rintro (h | h | h)
        · exact .inr (.inl h)
        · exact .inl h
        · exact .inr (.inr h)
    · split
      · rename_i h1 h2
        subst h2
        rw [List.mem_cons]; constructor
        · exact fun h => .inr h
        · rintro (h | h)
          · exact .inl h
          · exact h
      · rw [List.mem_cons]
theorem bl_trich {a b : BL} (h1 : ¬ a < b) (h2 : ¬ a = b) : b < a := by
  have h3 : b ≤ a := List.not_lt.1 h1
  rcases Decidable.em (b < a) with h | h
  · exact h
  · exact absurd (List.le_antisymm (List.not_lt.1 h) h3) h2
theorem ins_sorted (x : BL) : ∀ l : List BL, l.Pairwise (· < ·) → (ins x l).Pairwise (· < ·) := by
  intro l
  induction l with
  | nil => intro _; simp [ins]
  | cons a l ih =>
    intro h
    have h0 := h
    rw [List.pairwise_cons] at h
    unfold ins
    split
    · rename_i hax
      rw [List.pairwise_cons]
      refine ⟨fun y hy => ?_, ih h.2⟩
      rcases (ins_mem x y l).1 hy with rfl | hy
      · exact hax
      · exact h.1 y hy
    · split
      · exact h0
      · rename_i h1 h2
        have hxa : x < a := bl_trich h1 h2
        rw [List.pairwise_cons]
        refine ⟨fun y hy => ?_, h0⟩
        rcases List.mem_cons.1 hy with rfl | hy
        · exact hxa
        · exact List.lt_trans hxa (h.1 y hy)
theorem ins_at (x : BL) : ∀ (l : List BL) (k : Nat), (∀ i, i < k → ∃ a, l[i]? = some a ∧ a < x) → (∀ a, l[k]? = some a → ¬ a < x) →
    (l[k]? = some x → ins x l = l) ∧ (¬ l[k]? = some x → ins x l = l.take k ++ x :: l.drop k) := by
  intro l
  induction l with
  | nil =>
    intro k h1 _
    cases k with
    | zero => exact ⟨fun h => by simp at h, fun _ => rfl⟩
    | succ k => obtain ⟨a, h, _⟩ := h1 0 (by omega); simp at h
  | cons b l ih =>
    intro k h1 h2
    cases k with
    | zero =>
      have hb := h2 b rfl
      constructor
      · intro h
        simp only [List.getElem?_cons_zero, Option.some.injEq] at h
        subst h
        unfold ins; rw [if_neg hb, if_pos rfl]
      · intro h
        have hne : ¬ b = x := fun e => h (by rw [e]; rfl)
        unfold ins; rw [if_neg hb, if_neg hne]; rfl
    | succ k =>
      have hb : b < x := by
        obtain ⟨a, h, h3⟩ := h1 0 (by omega)
        simp only [List.getElem?_cons_zero, Option.some.injEq] at h
        subst h; exact h3
      have := ih k (fun i hi => h1 (i + 1) (by omega)) h2
      constructor
      · intro h
        unfold ins; rw [if_pos hb, this.1 h]
      · intro h
        unfold ins; rw [if_pos hb, this.2 h]; rfl
theorem bl_irrefl (a : BL) : ¬ a < a := List.lt_irrefl a
/-- Two lists in strict order with the same elements are one list. -/
theorem sorted_unique : ∀ (l m : List BL), l.Pairwise (· < ·) → m.Pairwise (· < ·) → (∀ x, x ∈ l ↔ x ∈ m) → l = m := by
  intro l
  induction l with
  | nil =>
    intro m _ _ h
    cases m with
    | nil => rfl
    | cons b m => have := (h b).2 (by simp); cases this
  | cons a l ih =>
    intro m hl hm h
    cases m with
    | nil => have := (h a).1 (by simp); cases this
    | cons b m =>
      rw [List.pairwise_cons] at hl hm
      have hab : a = b := by
        rcases List.mem_cons.1 ((h a).1 (by simp)) with e | h1
        · exact e
        · rcases List.mem_cons.1 ((h b).2 (by simp)) with e | h2
          · exact e.symm
          · exact absurd (List.lt_trans (hm.1 a h1) (hl.1 b h2)) (bl_irrefl b)
      subst hab
      congr 1
      refine ih m hl.2 hm.2 fun x => ?_
      constructor
      · intro hx
        rcases List.mem_cons.1 ((h x).1 (List.mem_cons_of_mem _ hx)) with e | h1
        · subst e; exact absurd (hl.1 x hx) (bl_irrefl x)
        · exact h1
      · intro hx
        rcases List.mem_cons.1 ((h x).2 (List.mem_cons_of_mem _ hx)) with e | h1
        · subst e; exact absurd (hm.1 x hx) (bl_irrefl x)
        · exact h1
theorem compactTo_spec (d : Array BL) (hd : ∀ i j, i ≤ j → j < d.size → d[i]! ≤ d[j]!) : ∀ m, m ≤ d.size →
    (Lib.compactUpTo d m).Pairwise (· < ·) ∧ (∀ x, x ∈ Lib.compactUpTo d m ↔ ∃ j, j < m ∧ d[j]! = x) ∧ (∀ x ∈ Lib.compactUpTo d m, 0 < m → x ≤ d[m - 1]!) := by
  intro m
  induction m with
  | zero =>
    intro _
    refine ⟨by simp [Lib.compactUpTo], fun x => ?_, fun x hx => by simp [Lib.compactUpTo] at hx⟩
    simp [Lib.compactUpTo]
  | succ m ih =>
    intro hm
    obtain ⟨h1, h2, h3⟩ := ih (by omega)
    rw [Lib.compactUpTo_succ]
    have hall : ∀ x ∈ Lib.compactUpTo d m, x ≤ d[m]! := fun x hx => by
      obtain ⟨j, hj, rfl⟩ := (h2 x).1 hx
      exact hd j m (by omega) (by omega)
    cases hk : Lib.keeps d m
    · simp only [Bool.false_eq_true, if_false, List.append_nil]
      have hk2 : 0 < m ∧ d[m]! = d[m - 1]! := by
        unfold Lib.keeps at hk
        have := of_decide_eq_false hk
        by_cases h0 : m = 0
        · exact absurd (.inl h0) this
        · refine ⟨by omega, ?_⟩
          exact Decidable.not_not.1 fun hne => this (.inr hne)
      refine ⟨h1, fun x => ?_, fun x hx _ => hall x hx⟩
      rw [h2]
      constructor
      · rintro ⟨j, hj, e⟩; exact ⟨j, by omega, e⟩
      · rintro ⟨j, hj, e⟩
        by_cases hjm : j = m
        · subst hjm; exact ⟨j - 1, by omega, by rw [← e, hk2.2]⟩
        · exact ⟨j, by omega, e⟩
    · simp only [if_true]
      refine ⟨?_, fun x => ?_, fun x hx _ => ?_⟩
      · rw [List.pairwise_append]
        refine ⟨h1, List.pairwise_singleton _ _, fun a ha b hb => ?_⟩
        simp only [List.mem_singleton] at hb
        subst hb
        by_cases h0 : m = 0
        · subst h0; simp [Lib.compactUpTo] at ha
        · have hne : d[m]! ≠ d[m - 1]! := by
            unfold Lib.keeps at hk
            rcases of_decide_eq_true hk with h | h
            · exact absurd h h0
            · exact h
          have hle := h3 a ha (by omega)
          have hle2 := hd (m - 1) m (by omega) (by omega)
          have hlt : d[m - 1]! < d[m]! := bl_trich (fun h => absurd (List.not_lt.2 hle2) (by simpa using h)) (fun e => hne e)
          rcases Decidable.em (a < d[m]!) with h | h
          · exact h
          · exact absurd (List.le_antisymm (hall a ha) (List.not_lt.1 h)) (fun e => by rw [e] at hle; exact absurd hlt (List.not_lt.2 hle))
      · rw [List.mem_append, h2, List.mem_singleton]
        constructor
        · rintro (⟨j, hj, e⟩ | e)
          · exact ⟨j, by omega, e⟩
          · exact ⟨m, by omega, e.symm⟩
        · rintro ⟨j, hj, e⟩
          by_cases hjm : j = m
          · subst hjm; exact .inr e.symm
          · exact .inl ⟨j, by omega, e⟩
      · rw [List.mem_append, List.mem_singleton] at hx
        rcases hx with hx | hx
        · exact hall x hx
        · rw [hx]; exact List.le_refl _
def leB (x y : BL) : Bool := decide (x ≤ y)
/-- Sorted, without equal neighbours. -/
def dif (l : List BL) : List BL := Lib.compact (l.mergeSort fun x y => decide (x ≤ y))
theorem dif_spec (l : List BL) : (dif l).Pairwise (· < ·) ∧ ∀ x, x ∈ dif l ↔ x ∈ l := by
  have tr : ∀ a b c : BL, decide (a ≤ b) = true → decide (b ≤ c) = true → decide (a ≤ c) = true := fun a b c h1 h2 => by simp only [decide_eq_true_eq] at *; exact List.le_trans h1 h2
  have tot : ∀ a b : BL, (decide (a ≤ b) || decide (b ≤ a)) = true := fun a b => by simp only [Bool.or_eq_true, decide_eq_true_eq]; exact List.le_total a b
  have hs := List.pairwise_mergeSort tr tot l
  have hp := List.mergeSort_perm l fun x y => decide (x ≤ y)
  obtain ⟨z, hz⟩ : ∃ z, (l.mergeSort fun x y => decide (x ≤ y)) = z := ⟨_, rfl⟩
  rw [hz] at hs hp
  have hd : ∀ i j, i ≤ j → j < z.toArray.size → z.toArray[i]! ≤ z.toArray[j]! := by
    intro i j hij hj
    have hj' : j < z.length := by simpa using hj
    rw [getElem!_pos z.toArray i (by simp; omega), getElem!_pos z.toArray j (by simpa using hj')]
    simp only [List.getElem_toArray]
    by_cases e : i = j
    · subst e; exact List.le_refl _
    · have := List.pairwise_iff_getElem.1 hs i j (by omega) hj' (by omega)
      simpa using this
  have h := compactTo_spec z.toArray hd z.length (by simp)
  have e : dif l = Lib.compactUpTo z.toArray z.length := by unfold dif Lib.compact; rw [hz]
  rw [e]
  refine ⟨h.1, fun x => ?_⟩
  rw [h.2.1, ← hp.mem_iff]
  constructor
  · rintro ⟨j, hj, e⟩
    rw [getElem!_pos z.toArray j (by simpa using hj)] at e
    simp only [List.getElem_toArray] at e
    rw [← e]; exact List.getElem_mem hj
  · intro hx
    obtain ⟨j, hj, e⟩ := List.getElem_of_mem hx
    refine ⟨j, hj, ?_⟩
    rw [getElem!_pos z.toArray j (by simpa using hj)]
    simpa using e
/-- All inserted, one after the other. -/
def insAll (l : List BL) : List BL := l.foldl (fun m x => ins x m) []
theorem insAll_snoc (l : List BL) (x : BL) : insAll (l ++ [x]) = ins x (insAll l) := by simp [insAll]
theorem insAll_spec (l : List BL) : (insAll l).Pairwise (· < ·) ∧ ∀ x, x ∈ insAll l ↔ x ∈ l := by
  have key : ∀ (l m : List BL), m.Pairwise (· < ·) → (l.foldl (fun m x => ins x m) m).Pairwise (· < ·) ∧ ∀ x, x ∈ l.foldl (fun m x => ins x m) m ↔ x ∈ l ∨ x ∈ m := by
    intro l
    induction l with
    | nil => intro m hm; exact ⟨hm, fun x => by simp⟩
    | cons a l ih =>
      intro m hm
      obtain ⟨h1, h2⟩ := ih (ins a m) (ins_sorted a m hm)
      refine ⟨h1, fun x => ?_⟩
      rw [List.foldl_cons, h2, ins_mem, List.mem_cons]
      constructor
      · rintro (h | h | h)
        · exact .inl (.inr h)
        · exact .inl (.inl h)
        · exact .inr h
      · rintro ((h | h) | h)
        · exact .inr (.inl h)
        · exact .inl h
        · exact .inr (.inr h)
  have := key l [] List.Pairwise.nil
  exact ⟨this.1, fun x => by rw [insAll, this.2]; simp⟩
theorem dif_insAll (l : List BL) : dif l = insAll l := sorted_unique _ _ (dif_spec l).1 (insAll_spec l).1 fun x => by rw [(dif_spec l).2, (insAll_spec l).2]
theorem insAll_len (l : List BL) : (insAll l).length ≤ l.length := by
  have key : ∀ x (m : List BL), (ins x m).length ≤ m.length + 1 := by
    intro x m
    induction m with
    | nil => simp [ins]
    | cons a m ih =>
      unfold ins
      by_cases h1 : a < x
      · rw [if_pos h1, List.length_cons, List.length_cons]; omega
      · rw [if_neg h1]
        by_cases h2 : a = x
        · rw [if_pos h2]; omega
        · rw [if_neg h2]; simp
  have : ∀ (l m : List BL), (l.foldl (fun m x => ins x m) m).length ≤ l.length + m.length := by
    intro l
    induction l with
    | nil => intro m; simp
    | cons a l ih => intro m; rw [List.foldl_cons]; have h1 := ih (ins a m); have h2 := key a m; simp; omega
  have h := this l []
  simpa [insAll] using h
end Go.Proofs.YtkohadoicebojaaGreatDoor

namespace Go.Proofs.YtkohadoicebojaaGreatDoor
open Go.RowKit Go.Deep
def putS (L : List ByteArray) (x : ByteArray) : List ByteArray := (ins (bts x) (L.map bts)).map str
theorem map_bts_str (L : List BL) : (L.map str).map bts = L := by simp [Function.comp_def, bts_str]
theorem map_str_bts (L : List ByteArray) : (L.map bts).map str = L := by simp [Function.comp_def, str_bts]
/-- What stands ahead of place k goes ahead of x. -/
def ahd (L : List ByteArray) (x : ByteArray) (k : Nat) : Prop := ∀ i, i < k → ∃ a, L[i]? = some a ∧ ltS a x = true
theorem ahd_zero (L : List ByteArray) (x : ByteArray) : ahd L x 0 := fun i hi => by omega
theorem ahd_succ {L : List ByteArray} {x y : ByteArray} {k : Nat} (h : ahd L x k) (hy : L[k]? = some y) (hl : ltS y x = true) : ahd L x (k + 1) := fun i hi => by
  by_cases e : i = k
  · subst e; exact ⟨y, hy, hl⟩
  · exact h i (by omega)
theorem putS_at {L : List ByteArray} {x : ByteArray} {k : Nat} (h : ahd L x k) (h2 : ∀ a, L[k]? = some a → ltS a x = false) :
    (L[k]? = some x → putS L x = L) ∧ (¬ L[k]? = some x → putS L x = L.take k ++ x :: L.drop k) := by
  have h3 := ins_at (bts x) (L.map bts) k (fun i hi => by
    obtain ⟨a, ha, hl⟩ := h i hi
    exact ⟨bts a, by rw [List.getElem?_map, ha]; rfl, of_decide_eq_true hl⟩) (fun a ha => by
    rw [List.getElem?_map] at ha
    cases e : L[k]? with
    | none => rw [e] at ha; cases ha
    | some y =>
      rw [e] at ha
      simp only [Option.map_some, Option.some.injEq] at ha
      subst ha
      exact of_decide_eq_false (h2 y e))
  constructor
  · intro e
    unfold putS
    rw [h3.1 (by rw [List.getElem?_map, e]; rfl), map_str_bts]
  · intro e
    unfold putS
    rw [h3.2 (fun e2 => e (by
      rw [List.getElem?_map] at e2
      cases e3 : L[k]? with
      | none => rw [e3] at e2; cases e2
      | some y =>
        rw [e3] at e2
        simp only [Option.map_some, Option.some.injEq] at e2
        rw [bts_inj e2])), List.map_append, List.map_cons, List.map_take, List.map_drop, map_str_bts, str_bts]
theorem putS_len (L : List ByteArray) (x : ByteArray) : (putS L x).length ≤ L.length + 1 := by
  have key : ∀ x (m : List BL), (ins x m).length ≤ m.length + 1 := by
    intro x m
    induction m with
    | nil => simp [ins]
    | cons a m ih =>
      unfold ins
      by_cases h1 : a < x
      · rw [if_pos h1, List.length_cons, List.length_cons]; omega
      · rw [if_neg h1]
        by_cases h2 : a = x
        · rw [if_pos h2]; omega
        · rw [if_neg h2]; simp
  unfold putS
  have := key (bts x) (L.map bts)
  rw [List.length_map] at this ⊢; exact this
theorem Own.pre {e : TypeId} {B g n cap j : Nat} {w : World} {xs : List Value} (h : Own e B w (.slice (some ⟨g, 0, none⟩) n cap) xs) (hj : j ≤ n) : Own e B w (.slice (some ⟨g, 0, none⟩) j cap) (xs.take j) := by
  obtain ⟨_, ⟨e0, _⟩ | ⟨g', cap', cur, e0, hB, hg, hnc, hcm, hcs, ht⟩⟩ := h
  · cases e0
  · cases e0
    have hl : (xs.take j).length = j := by rw [List.length_take]; omega
    unfold Own
    rw [hl]
    refine ⟨by rw [Nat.mul_one]; exact hl, .inr ⟨g, cap, cur, rfl, hB, hg, by omega, hcm, hcs, ?_⟩⟩
    have h2 := congrArg (List.take j) ht
    rw [List.take_take, Nat.min_eq_left (by omega)] at h2
    rw [Nat.mul_one]; exact h2
theorem Own.blk {e : TypeId} {B g n cap : Nat} {w : World} {xs : List Value} (h : Own e B w (.slice (some ⟨g, 0, none⟩) n cap) xs) : xs.length = n ∧ n ≤ cap ∧ cap ≤ maxLen := by
  obtain ⟨_, ⟨e0, _⟩ | ⟨g', cap', cur, e0, hB, hg, hnc, hcm, hcs, ht⟩⟩ := h
  · cases e0
  · cases e0; exact ⟨rfl, hnc, hcm⟩
theorem strs_one' (l : List ByteArray) : ∀ y ∈ strs l, y.oneCell' = true := fun y hy => by
  obtain ⟨x, _, rfl⟩ := List.mem_map.1 hy
  rfl
theorem Row.none (w : World) (A : Option Addr) (c : Nat) (hc : c ≤ maxLen) : Row w (.slice A 0 c) [] := ⟨A, c, rfl, Nat.zero_le _, hc, fun i hi => by simp at hi⟩
theorem strs_take (l : List ByteArray) (j : Nat) : (strs l).take j = strs (l.take j) := by simp [strs, List.map_take]
set_option maxRecDepth 10000 in
set_option maxHeartbeats 800000 in
theorem sPutB (B g n cap : Nat) (L : List ByteArray) (x : ByteArray) (w : World) (h : Own 9 B w (.slice (some ⟨g, 0, none⟩) n cap) (strs L)) (hl : L.length ≤ 1000000) (hB : B ≤ w.heap.size) :
    Calls Tryz.prog 112 #[.slice (some ⟨g, 0, none⟩) n cap, .string x] w fun e w' => ∃ v', e = .returned v' ∧ Own 9 B w' v' (strs (putS L x)) ∧ Below B w w' := by
  obtain ⟨a3, n3, c3, hv3, HL, hn3, HC⟩ := (OwnS.strs h).open
  cases hv3
  have hl2 : n ≤ 1000000 := by have := HL.out; omega
  obtain ⟨-, hnc, hcm⟩ := h.blk
  have hgl := (h.lt g rfl).2
  have hcm2 : cap ≤ 9223372036854775807 := by unfold maxLen at hcm; omega
  clear hcm
  have he := Own.empty 9 w
  have hba := below_alloc w (.cells #[] 9)
  go_enter Tryz.func112, Tryz.ntmps112
  go_wp2
  go_loop [5] (fun i => ∃ j : Nat, j ≤ n ∧ i = .int .i64 j ∧ Hid (ahd L x j)) (fun i => n - (intOf i).toNat)
  case atStart => exact ⟨0, Nat.zero_le _, rfl, Lib.hid (ahd_zero _ _)⟩
  case round =>
    obtain ⟨j, hj, rfl, HA⟩ := hrel
    have HR : Hid (∀ c, cap - j ≤ c → c ≤ 9223372036854775807 → ∀ o, (j < n → o = j) → Row (w.alloc (.cells #[] 9)) (.slice (some ⟨g, o, none⟩) (n - j) c) (strs (L.drop j))) := Lib.hid fun c hc hc2 o ho => by
      have hdl : (strs (L.drop j)).length = n - j := by rw [strs_length, List.length_drop, HL.out]
      refine ⟨_, c, by rw [hdl], by omega, by unfold maxLen; omega, fun i hi => ?_⟩
      rw [hdl] at hi
      obtain ⟨b, off, y, hab, hcy, HY⟩ := HC.out (j + i) (by omega)
      cases hab
      rw [Nat.zero_add] at hcy
      have hoj := ho (by omega)
      subst hoj
      refine ⟨g, _, rfl, ?_⟩
      rw [cell_keep hba hcy, strs_get]
      congr 2
      have h2 := HY.out
      rw [List.getElem_drop]
      rw [List.getElem?_eq_getElem (by have := HL.out; omega)] at h2
      exact (Option.some.inj h2).symm
    by_cases hlt : j < n
    · obtain ⟨b, off, y, hab, hcy, HY⟩ := HC.out j hlt
      cases hab
      rw [Nat.zero_add] at hcy
      have hjc : j < cap := by omega
      cases hls : ltS y x
      · have hbl : Op.bytesLess y.toList x.toList = false := by rw [bytesLess_ltS]; exact hls
        have HP := Lib.hid (putS_at HA.out (fun a ha => by rw [HY.out] at ha; cases ha; exact hls))
        by_cases hyx : y = x
        · have HO := Lib.hid (HP.out.1 (by rw [HY.out, hyx]))
          subst hyx
          go_wp2
          go_ret
          exact ⟨_, rfl, by rw [HO.out]; exact h, Below.refl _ _⟩
        · have HO := Lib.hid (HP.out.2 (by rw [HY.out]; intro e; cases e; exact hyx rfl))
          have hne := beq_toList_ne hyx
          have HE : Hid (strs (putS L x) = strs (L.take j) ++ [.string x] ++ strs (L.drop j)) := Lib.hid (by rw [HO.out]; simp [strs])
          go_wp2_with (at_builtin; refine appL 39 9 16 (.string ByteArray.empty) Tryz.underlying39 Tryz.infoStr rfl he (HR.out (cap - j) (Nat.le_refl _) (by omega) j (fun _ => rfl)) (strs_one' _) ?k1 ?k2 (by simp) rfl _ _ rfl rfl rfl ?_)
          case k1 => rw [strs_length, List.length_drop, HL.out]; unfold maxLen; first | omega | (simp; omega)
          case k2 => rw [strs_length, List.length_drop, HL.out]; first | omega | (simp; omega)
          intro v1 w1 hv1 hg1
          have bw1 : Below w.heap.size w w1 := hba.trans (he.below hg1 (Nat.le_refl _) (by simp))
          have zw1 := bw1.size
          have h1 := (h.keep bw1).pre (j := j) (by omega)
          rw [strs_take] at h1
          clear hg1
          (try rw [List.nil_append] at hv1)
          obtain ⟨a1, c1, rfl⟩ := hv1.form rfl
          go_wp2_with (at_builtin; refine app1 39 9 16 (.string ByteArray.empty) Tryz.underlying39 Tryz.infoStr rfl h1 (.string x) rfl ?k3 ?k4 (by omega) rfl _ _ rfl rfl rfl (by simp) ?_)
          case k3 => rw [strs_length, List.length_take, HL.out]; unfold maxLen; omega
          case k4 => rw [strs_length, List.length_take, HL.out]; omega
          intro v2 w2 hv2 hg2 hz2
          have hv12 := hv1.grown hg2 (.inr fun e => by have := (hv1.lt g (by simpa [Value.ownBlock] using e)).1; omega)
          have bw2 : Below B w w2 := (bw1.mono hB).trans (h1.below hg2 (Nat.le_refl _) (by omega))
          clear hg2 hv1
          go_wp2_with (at_builtin; refine appL 39 9 16 (.string ByteArray.empty) Tryz.underlying39 Tryz.infoStr rfl hv2 hv12.row (strs_one' _) ?k5 ?k6 (by omega) rfl _ _ rfl rfl rfl ?_)
          case k5 => rw [List.length_append, strs_length, strs_length, List.length_take, List.length_drop, HL.out]; unfold maxLen; first | omega | (simp; omega)
          case k6 => rw [List.length_append, strs_length, strs_length, List.length_take, List.length_drop, HL.out]; first | omega | (simp; omega)
          intro v3 w3 hv3 hg3
          go_wp2
          go_ret
          exact ⟨_, rfl, by rw [HE.out, List.append_assoc]; exact hv3, bw2.trans (hv2.below hg3 (Nat.le_refl _) (by omega))⟩
      · have hbl : Op.bytesLess y.toList x.toList = true := by rw [bytesLess_ltS]; exact hls
        have HO := Lib.hid (ahd_succ HA.out HY.out hls)
        go_wp2
        go_round
        case rel => exact ⟨j + 1, by omega, by go_num, HO⟩
        case measure => simp [intOf]; omega
    · have e : j = n := by omega
      subst e
      have HO := Lib.hid ((putS_at HA.out (fun a ha => by rw [List.getElem?_eq_none (by rw [HL.out]; exact Nat.le_refl _)] at ha; cases ha)).2 (by rw [List.getElem?_eq_none (by rw [HL.out]; exact Nat.le_refl _)]; simp))
      have hnj : j - j = 0 := Nat.sub_self j
      have HE : Hid (strs (putS L x) = strs (L.take j) ++ [.string x] ++ []) := Lib.hid (by rw [HO.out, List.drop_of_length_le (by rw [HL.out]; exact Nat.le_refl _)]; simp [strs])
      by_cases hjc : j = cap
      · subst hjc
        go_wp2_with (at_builtin; refine appL 39 9 16 (.string ByteArray.empty) Tryz.underlying39 Tryz.infoStr rfl he (Row.none _ _ _ (by unfold maxLen; omega)) (fun y hy => by cases hy) (by unfold maxLen; simp) (by simp) (by simp) rfl _ _ rfl rfl rfl ?_)
        intro v1 w1 hv1 hg1
        have bw1 : Below w.heap.size w w1 := hba.trans (he.below hg1 (Nat.le_refl _) (by simp))
        have zw1 := bw1.size
        have h1 := (h.keep bw1).pre (j := j) (by omega)
        rw [strs_take] at h1
        clear hg1
        (try rw [List.nil_append] at hv1)
        obtain ⟨a1, c1, rfl⟩ := hv1.form rfl
        go_wp2_with (at_builtin; refine app1 39 9 16 (.string ByteArray.empty) Tryz.underlying39 Tryz.infoStr rfl h1 (.string x) rfl ?k3 ?k4 (by omega) rfl _ _ rfl rfl rfl (by simp) ?_)
        case k3 => rw [strs_length, List.length_take, HL.out]; unfold maxLen; omega
        case k4 => rw [strs_length, List.length_take, HL.out]; omega
        intro v2 w2 hv2 hg2 hz2
        have hv12 := hv1.grown hg2 (.inr fun e => by have := (hv1.lt g (by simpa [Value.ownBlock] using e)).1; omega)
        have bw2 : Below B w w2 := (bw1.mono hB).trans (h1.below hg2 (Nat.le_refl _) (by omega))
        clear hg2 hv1
        go_wp2_with (at_builtin; refine appL 39 9 16 (.string ByteArray.empty) Tryz.underlying39 Tryz.infoStr rfl hv2 hv12.row (fun y hy => by cases hy) ?k5 ?k6 (by omega) rfl _ _ rfl rfl rfl ?_)
        case k5 => rw [List.length_append, strs_length, List.length_take, HL.out]; unfold maxLen; simp; omega
        case k6 => rw [List.length_append, strs_length, List.length_take, HL.out]; simp; omega
        intro v3 w3 hv3 hg3
        go_wp2
        go_ret
        exact ⟨_, rfl, by rw [HE.out, List.append_assoc]; exact hv3, bw2.trans (hv2.below hg3 (Nat.le_refl _) (by omega))⟩
      · have hjc2 : j < cap := by omega
        go_wp2_with (at_builtin; refine appL 39 9 16 (.string ByteArray.empty) Tryz.underlying39 Tryz.infoStr rfl he (Row.none _ _ _ (by unfold maxLen; omega)) (fun y hy => by cases hy) (by unfold maxLen; simp) (by simp) (by simp) rfl _ _ rfl rfl rfl ?_)
        intro v1 w1 hv1 hg1
        have bw1 : Below w.heap.size w w1 := hba.trans (he.below hg1 (Nat.le_refl _) (by simp))
        have zw1 := bw1.size
        have h1 := (h.keep bw1).pre (j := j) (by omega)
        rw [strs_take] at h1
        clear hg1
        (try rw [List.nil_append] at hv1)
        obtain ⟨a1, c1, rfl⟩ := hv1.form rfl
        go_wp2_with (at_builtin; refine app1 39 9 16 (.string ByteArray.empty) Tryz.underlying39 Tryz.infoStr rfl h1 (.string x) rfl ?k3 ?k4 (by omega) rfl _ _ rfl rfl rfl (by simp) ?_)
        case k3 => rw [strs_length, List.length_take, HL.out]; unfold maxLen; omega
        case k4 => rw [strs_length, List.length_take, HL.out]; omega
        intro v2 w2 hv2 hg2 hz2
        have hv12 := hv1.grown hg2 (.inr fun e => by have := (hv1.lt g (by simpa [Value.ownBlock] using e)).1; omega)
        have bw2 : Below B w w2 := (bw1.mono hB).trans (h1.below hg2 (Nat.le_refl _) (by omega))
        clear hg2 hv1
        go_wp2_with (at_builtin; refine appL 39 9 16 (.string ByteArray.empty) Tryz.underlying39 Tryz.infoStr rfl hv2 hv12.row (fun y hy => by cases hy) ?k5 ?k6 (by omega) rfl _ _ rfl rfl rfl ?_)
        case k5 => rw [List.length_append, strs_length, List.length_take, HL.out]; unfold maxLen; simp; omega
        case k6 => rw [List.length_append, strs_length, List.length_take, HL.out]; simp; omega
        intro v3 w3 hv3 hg3
        go_wp2
        go_ret
        exact ⟨_, rfl, by rw [HE.out, List.append_assoc]; exact hv3, bw2.trans (hv2.below hg3 (Nat.le_refl _) (by omega))⟩
theorem putS_ne (L : List ByteArray) (x : ByteArray) : putS L x ≠ [] := by
  intro e
  have h : bts x ∈ ins (bts x) (L.map bts) := (ins_mem _ _ _).2 (.inl rfl)
  have h2 : str (bts x) ∈ putS L x := List.mem_map.2 ⟨_, h, rfl⟩
  rw [e] at h2; cases h2
theorem sPut (B : Nat) (v : Value) (L : List ByteArray) (x : ByteArray) (w : World) (h : Own 9 B w v (strs L)) (hv : v ≠ .slice none 0 0) (hl : L.length ≤ 1000000) (hB : B ≤ w.heap.size) :
    Calls Tryz.prog 112 #[v, .string x] w fun e w' => ∃ v', e = .returned v' ∧ Own 9 B w' v' (strs (putS L x)) ∧ v' ≠ .slice none 0 0 ∧ Below B w w' := by
  have h0 := h
  obtain ⟨_, ⟨e0, _⟩ | ⟨g, cap, cur, rfl, _⟩⟩ := h0
  · exact absurd e0 hv
  · refine (sPutB B g _ cap L x w h hl hB).mono ?_
    rintro e w' ⟨v', rfl, ho, hb⟩
    refine ⟨v', rfl, ho, ?_, hb⟩
    rintro rfl
    obtain ⟨_, ⟨_, e1⟩ | ⟨_, _, _, e1, _⟩⟩ := ho
    · rw [strs_length] at e1
      exact putS_ne L x (List.length_eq_zero_iff.1 e1)
    · cases e1
end Go.Proofs.YtkohadoicebojaaGreatDoor

namespace Go.Proofs.YtkohadoicebojaaGreatDoor
open Go.RowKit Go.Deep
set_option maxRecDepth 10000 in
set_option maxHeartbeats 800000 in
theorem sPutN (B : Nat) (x : ByteArray) (w : World) (hB : B ≤ w.heap.size) :
    Calls Tryz.prog 112 #[.slice none 0 0, .string x] w fun e w' => ∃ v', e = .returned v' ∧ Own 9 B w' v' (strs [x]) ∧ Below B w w' := by
  have he := Own.empty 9 w
  have hba := below_alloc w (.cells #[] 9)
  go_enter Tryz.func112, Tryz.ntmps112
  go_wp2
  go_loop [5] (fun i => i = .int .i64 0) (fun _ => 0)
  case atStart => rfl
  case round =>
    obtain rfl := hrel
    go_wp2_with (at_builtin; refine appL 39 9 16 (.string ByteArray.empty) Tryz.underlying39 Tryz.infoStr rfl he (Row.none _ _ _ (by unfold maxLen; omega)) (fun y hy => by cases hy) (by unfold maxLen; simp) (by simp) (by simp) rfl _ _ rfl rfl rfl ?_)
    intro v1 w1 hv1 hg1
    have bw1 : Below w.heap.size w w1 := hba.trans (he.below hg1 (Nat.le_refl _) (by simp))
    have zw1 := bw1.size
    have h1 := Own.nil 9 B w1
    clear hg1
    (try rw [List.nil_append] at hv1)
    obtain ⟨a1, c1, rfl⟩ := hv1.form rfl
    go_wp2_with (at_builtin; refine app1 39 9 16 (.string ByteArray.empty) Tryz.underlying39 Tryz.infoStr rfl h1 (.string x) rfl ?k3 ?k4 (by omega) rfl _ _ rfl rfl rfl (by simp) ?_)
    case k3 => unfold maxLen; simp
    case k4 => simp
    intro v2 w2 hv2 hg2 hz2
    have hv12 := hv1.grown hg2 (by cases a1 with | none => exact .inl rfl | some a => exact .inr (fun e => by simp [Value.ownBlock] at e))
    have bw2 : Below B w w2 := (bw1.mono hB).trans (h1.below hg2 (Nat.le_refl _) (by omega))
    clear hg2 hv1
    go_wp2_with (at_builtin; refine appL 39 9 16 (.string ByteArray.empty) Tryz.underlying39 Tryz.infoStr rfl hv2 hv12.row (fun y hy => by cases hy) ?k5 ?k6 (by omega) rfl _ _ rfl rfl rfl ?_)
    case k5 => unfold maxLen; simp
    case k6 => simp
    intro v3 w3 hv3 hg3
    go_wp2
    go_ret
    exact ⟨_, rfl, hv3, bw2.trans (hv2.below hg3 (Nat.le_refl _) (by omega))⟩
theorem putS_nil (x : ByteArray) : putS [] x = [x] := by
  have h : putS [] x = [str (bts x)] := rfl
  rw [h, str_bts]
theorem sPutA (B : Nat) (v : Value) (L : List ByteArray) (x : ByteArray) (w : World) (h : Own 9 B w v (strs L)) (hl : L.length ≤ 1000000) (hB : B ≤ w.heap.size) :
    Calls Tryz.prog 112 #[v, .string x] w fun e w' => ∃ v', e = .returned v' ∧ Own 9 B w' v' (strs (putS L x)) ∧ Below B w w' := by
  have h0 := h
  obtain ⟨_, ⟨rfl, e1⟩ | ⟨g, cap, cur, rfl, _⟩⟩ := h0
  · rw [strs_length] at e1
    obtain rfl := List.length_eq_zero_iff.1 e1
    rw [putS_nil]
    exact sPutN B x w hB
  · exact sPutB B g _ cap L x w h hl hB
theorem putS_mem {L : List ByteArray} {x y : ByteArray} (h : y ∈ putS L x) : y = x ∨ y ∈ L := by
  unfold putS at h
  obtain ⟨b, hb, rfl⟩ := List.mem_map.1 h
  rcases (ins_mem _ _ _).1 hb with rfl | hb
  · exact .inl (str_bts x)
  · obtain ⟨z, hz, rfl⟩ := List.mem_map.1 hb
    exact .inr (by rw [str_bts]; exact hz)
end Go.Proofs.YtkohadoicebojaaGreatDoor

namespace Go.Proofs.YtkohadoicebojaaGreatDoor
open Go.RowKit Go.Deep
def mtxs (r : List Int) : List ByteArray := r.map fmtI
theorem txts_take_succ {r : List Int} {j : Nat} {x : Int} (h : r[j]? = some x) : mtxs (r.take (j + 1)) = mtxs (r.take j) ++ [fmtI x] := by
  rw [take_snoc h]; simp [mtxs]
theorem mtxs_len (r : List Int) : (mtxs r).length = r.length := by simp [mtxs]
theorem totalS_le {l : List ByteArray} {c : Nat} (h : ∀ s ∈ l, s.size ≤ c) : totalS l ≤ c * l.length := by
  induction l with
  | nil => exact Nat.zero_le _
  | cons a l ih =>
    have e : totalS (a :: l) = a.size + totalS l := by simp [totalS]
    have h1 := h a (List.mem_cons_self ..)
    have h2 := ih fun s hs => h s (List.mem_cons_of_mem _ hs)
    rw [e, List.length_cons, Nat.mul_succ]; omega
theorem txts_small {r : List Int} (h : ∀ x ∈ r, 0 ≤ x ∧ x ≤ 1000000) : ∀ s ∈ mtxs r, s.size ≤ 21 := by
  intro s hs
  obtain ⟨x, hx, rfl⟩ := List.mem_map.1 hs
  have := h x hx
  exact fmtI_small (by omega) (by omega)
theorem txts_total {r : List Int} (h : ∀ x ∈ r, 0 ≤ x ∧ x ≤ 1000000) (hl : r.length ≤ 9) : (mtxs r).length + totalS (mtxs r) ≤ 198 := by
  have := totalS_le (txts_small h)
  rw [mtxs_len] at this ⊢
  omega
theorem joined_small {l : List ByteArray} {b : ByteArray} (hb : b.size ≤ 1) : (joined l b).size ≤ l.length + totalS l := by
  have h1 := jn_len l b l.length (Nat.le_refl _)
  rw [jn_all l b rfl] at h1
  unfold joined
  rw [str_size]
  rw [List.take_of_length_le (Nat.le_refl _)] at h1
  have : b.size * l.length ≤ 1 * l.length := Nat.mul_le_mul_right _ hb
  omega
def rowT (r : List Int) : ByteArray := joined (mtxs r) ⟨#[44]⟩
def rowsT (m : List (List Int)) : List ByteArray := m.map rowT
theorem rowsT_take_succ {m : List (List Int)} {j : Nat} {r : List Int} (h : m[j]? = some r) : rowsT (m.take (j + 1)) = rowsT (m.take j) ++ [rowT r] := by
  rw [take_snoc h]; simp [rowsT]
theorem rowsT_len (m : List (List Int)) : (rowsT m).length = m.length := by simp [rowsT]
theorem rowsT_total {m : List (List Int)} (h : isMat m = true) : (rowsT m).length + totalS (rowsT m) ≤ 2000 := by
  have hl := isMat_len h
  have key : ∀ s ∈ rowsT m, s.size ≤ 198 := fun s hs => by
    obtain ⟨r, hr, rfl⟩ := List.mem_map.1 hs
    obtain ⟨i, hi, e⟩ := List.getElem_of_mem hr
    have hrow : m[i]? = some r := by rw [List.getElem?_eq_getElem hi, e]
    have hrl := isMat_row h hrow
    have hx : ∀ x ∈ r, 0 ≤ x ∧ x ≤ 1000000 := fun x hx => by
      obtain ⟨j, hj, e⟩ := List.getElem_of_mem hx
      exact isMat_num h hrow (show r[j]? = some x by rw [List.getElem?_eq_getElem hj, e])
    exact Nat.le_trans (joined_small (Nat.le_refl 1)) (txts_total hx (by omega))
  have := totalS_le key
  rw [rowsT_len] at this ⊢
  omega
def matT (m : List (List Int)) : ByteArray := if isMat m then joined (rowsT m) ⟨#[47]⟩ else ByteArray.empty
set_option maxRecDepth 10000 in
set_option maxHeartbeats 400000 in
theorem iStrJoin (v : Value) (l : List ByteArray) (b : ByteArray) (w : World) (h : Strs w v l) (hl : l.length + totalS l ≤ 1048576) (hb : b.size ≤ 1048576) :
    Calls Tryz.prog 75 #[v, .string b] w fun e w' => e = .returned (.string (joined l b)) ∧ Below w.heap.size w w' := by
  obtain ⟨a, cap, rfl, hcap, hm, hc⟩ := h
  rw [strs_length] at hcap ⊢
  have hlen : (Lib.join (l.map bts) (bts b)).length ≤ 140737488355328 := by
    rw [← jn_all l b rfl]
    have := jn_small hl hb (Nat.le_refl _)
    omega
  by_cases h0 : l = []
  · subst h0
    refine (Tryz.strings_Join_none a cap b w).mono ?_
    rintro e w' ⟨rfl, rfl⟩
    exact ⟨rfl, Below.refl _ _⟩
  · have hpos : 0 < l.length := List.length_pos_iff.2 h0
    obtain ⟨bk, off, rfl, hc0⟩ := hc 0 (by rw [strs_length]; exact hpos)
    refine (Tryz.strings_Join bk off cap l b w (fun j x hj => ?_) (World.block_lt_of_cell? w _ hc0) (by omega) (by omega) hlen).mono ?_
    · have hj' : j < l.length := (List.getElem?_eq_some_iff.1 hj).1
      obtain ⟨bk', off', e1, hcell⟩ := hc j (by rw [strs_length]; exact hj')
      cases e1
      rw [hcell, strs_get]
      rw [List.getElem?_eq_getElem hj'] at hj
      rw [Option.some.inj hj]
    · rintro e w' ⟨rfl, hb2⟩
      exact ⟨rfl, hb2⟩
set_option maxRecDepth 10000 in
set_option maxHeartbeats 400000 in
theorem sNumbers (v : Value) (r : List Int) (sep : ByteArray) (w : World) (h : Ints w v r) (hx : ∀ x ∈ r, 0 ≤ x ∧ x ≤ 1000000) (hl : r.length ≤ 9) (hsep : sep.size ≤ 1) :
    Calls Tryz.prog 76 #[v, .string sep] w fun e w' => e = .returned (.string (joined (mtxs r) sep)) ∧ Below w.heap.size w w' := by
  obtain ⟨a, n, cap, rfl, HL, hn, HC⟩ := h.open
  have n9 : n ≤ 9 := by have := HL.out; omega
  have HT := Lib.hid (txts_total hx hl)
  have HX := Lib.hid hx; clear hx hl h
  go_enter Tryz.func76, Tryz.ntmps76
  go_wp2
  go_loopw [5, 6] (fun q i wr => ∃ j : Nat, j ≤ n ∧ i = .int .i64 j ∧ Own 9 w.heap.size wr q (strs (mtxs (r.take j))) ∧ Below w.heap.size w wr) (fun _ i _ => n - (intOf i).toNat)
  case atStart => exact ⟨0, Nat.zero_le _, rfl, Own.empty _ _, below_alloc _ _⟩
  case round =>
    obtain ⟨j, hj, rfl, hq, hbq⟩ := hrel
    have hsq := hbq.size
    by_cases hlt : j < n
    · obtain ⟨b, off, x, rfl, hc, HXj⟩ := HC.out j hlt
      have hc1 := cell_keep hbq hc
      obtain ⟨hx0, hx1⟩ := HX.out x (List.mem_of_getElem? HXj.out)
      have HS := Lib.hid (txts_take_succ HXj.out)
      have HLq : Hid ((mtxs (r.take j)).length ≤ 9) := Lib.hid (by rw [mtxs_len, List.length_take]; omega)
      obtain ⟨T, hT⟩ : ∃ T, fmtI x = T := ⟨_, rfl⟩
      have hC := Lib.hid (sFormatInt x wr (by omega) (by omega))
      rw [hT] at hC HS
      clear hT
      go_wp2_with fail
      refine hC.out.mono ?_
      rintro e w3 ⟨rfl, hb3⟩
      have b3 := hbq.trans (hb3.mono hsq)
      have hq3 := hq.keep hb3
      have hs3 := b3.size
      go_wp2_with (at_builtin; refine app1 39 9 16 (.string ByteArray.empty) Tryz.underlying39 Tryz.infoStr rfl hq3 (.string T) rfl ?h1 ?h2 hs3 rfl _ _ rfl rfl rfl (by simp) ?_)
      case h1 => rw [strs_length]; have := HLq.out; unfold maxLen; omega
      case h2 => rw [strs_length]; have := HLq.out; omega
      intro q' w4 hq4 hg _
      go_wp2
      go_roundw
      case rel => exact ⟨j + 1, by omega, by go_num, by rw [HS.out, strs_append]; exact hq4, b3.trans (hq3.below hg (Nat.le_refl _) hs3)⟩
      case measure => simp [intOf]; omega
    · have e : j = n := by omega
      subst e
      have HA : Hid (mtxs (r.take j) = mtxs r) := Lib.hid (by rw [List.take_of_length_le (by rw [HL.out]; exact Nat.le_refl _)])
      rw [HA.out] at hq
      have hJ := Lib.hid (sJoin _ (mtxs r) sep wr hq.row (by have := HT.out; omega) (by omega))
      obtain ⟨aq, cq, rfl⟩ := hq.form rfl
      go_wp2_with fail
      refine hJ.out.mono ?_
      rintro e w5 ⟨rfl, hb5⟩
      have b5 := hbq.trans (hb5.mono hsq)
      go_wp2
      go_ret
      exact ⟨rfl, b5⟩
set_option maxRecDepth 10000 in
set_option maxHeartbeats 400000 in
theorem iNumbers (v : Value) (r : List Int) (sep : ByteArray) (w : World) (h : Ints w v r) (hx : ∀ x ∈ r, 0 ≤ x ∧ x ≤ 1000000) (hl : r.length ≤ 9) (hsep : sep.size ≤ 1) (ht : Tb w) :
    Calls Tryz.prog 74 #[v, .string sep] w fun e w' => e = .returned (.string (joined (mtxs r) sep)) ∧ Below w.heap.size w w' := by
  obtain ⟨a, n, cap, rfl, HL, hn, HC⟩ := h.open
  have n9 : n ≤ 9 := by have := HL.out; omega
  have HT := Lib.hid (txts_total hx hl)
  have HX := Lib.hid hx; clear hx hl h
  go_enter Tryz.func74, Tryz.ntmps74
  go_wp2
  go_loopw [5, 7, 11] (fun q _ i wr => ∃ j : Nat, j ≤ n ∧ i = .int .i64 j ∧ Own 9 w.heap.size wr q (strs (mtxs (r.take j))) ∧ Below w.heap.size w wr) (fun _ _ i _ => n - (intOf i).toNat)
  case atStart => exact ⟨0, Nat.zero_le _, rfl, Own.empty _ _, below_alloc _ _⟩
  case round =>
    obtain ⟨j, hj, rfl, hq, hbq⟩ := hrel
    have hsq := hbq.size
    by_cases hlt : j < n
    · obtain ⟨b, off, x, rfl, hc, HXj⟩ := HC.out j hlt
      have hc1 := cell_keep hbq hc
      obtain ⟨hx0, hx1⟩ := HX.out x (List.mem_of_getElem? HXj.out)
      have HS := Lib.hid (txts_take_succ HXj.out)
      have HLq : Hid ((mtxs (r.take j)).length ≤ 9) := Lib.hid (by rw [mtxs_len, List.length_take]; omega)
      obtain ⟨T, hT⟩ : ∃ T, fmtI x = T := ⟨_, rfl⟩
      have hC := Lib.hid (iFormatInt x wr (by omega) (by omega) (ht.keep hbq))
      rw [hT] at hC HS
      clear hT
      go_wp2_with fail
      refine hC.out.mono ?_
      rintro e w3 ⟨rfl, hb3⟩
      have b3 := hbq.trans (hb3.mono hsq)
      have hq3 := hq.keep hb3
      have hs3 := b3.size
      go_wp2_with (at_builtin; refine app1 39 9 16 (.string ByteArray.empty) Tryz.underlying39 Tryz.infoStr rfl hq3 (.string T) rfl ?h1 ?h2 hs3 rfl _ _ rfl rfl rfl (by simp) ?_)
      case h1 => rw [strs_length]; have := HLq.out; unfold maxLen; omega
      case h2 => rw [strs_length]; have := HLq.out; omega
      intro q' w4 hq4 hg _
      go_wp2
      go_roundw
      case rel => exact ⟨j + 1, by omega, by go_num, by rw [HS.out, strs_append]; exact hq4, b3.trans (hq3.below hg (Nat.le_refl _) hs3)⟩
      case measure => simp [intOf]; omega
    · have e : j = n := by omega
      subst e
      have HA : Hid (mtxs (r.take j) = mtxs r) := Lib.hid (by rw [List.take_of_length_le (by rw [HL.out]; exact Nat.le_refl _)])
      rw [HA.out] at hq
      have hJ := Lib.hid (iStrJoin _ (mtxs r) sep wr hq.row (by have := HT.out; omega) (by omega))
      obtain ⟨aq, cq, rfl⟩ := hq.form rfl
      go_wp2_with fail
      refine hJ.out.mono ?_
      rintro e w5 ⟨rfl, hb5⟩
      have b5 := hbq.trans (hb5.mono hsq)
      go_wp2
      go_ret
      exact ⟨rfl, b5⟩
set_option maxRecDepth 10000 in
set_option maxHeartbeats 400000 in
theorem sMatrixText (v : Value) (m : List (List Int)) (w : World) (h : Mat w v m) :
    Calls Tryz.prog 26 #[v] w fun e w' => e = .returned (.string (matT m)) ∧ Below w.heap.size w w' := by
  have HM := Lib.hid h
  obtain ⟨a, n, cap, rfl, HL, hn, HC⟩ := h.open
  clear h
  cases hm : isMat m
  · have HI := Lib.hid hm
    have HR : Hid (matT m = ByteArray.empty) := Lib.hid (by unfold matT; rw [hm]; rfl)
    clear hm
    go_enter Tryz.func26, Tryz.ntmps26
    go_wp2_with fail
    refine (sIsMatrix _ m _ HM.out).mono ?_
    rintro e w2 ⟨rfl, rfl⟩
    rw [HI.out]
    go_wp2
    go_ret
    exact ⟨ret_str HR.out.symm, Below.refl _ _⟩
  have HT := Lib.hid (rowsT_total hm)
  have HI := Lib.hid hm
  have HR : Hid (matT m = joined (rowsT m) ⟨#[47]⟩) := Lib.hid (by unfold matT; rw [hm]; rfl)
  have n9 : n ≤ 9 := by have := HL.out; have := isMat_len hm; omega
  clear hm
  go_enter Tryz.func26, Tryz.ntmps26
  go_wp2_with fail
  refine (sIsMatrix _ m _ HM.out).mono ?_
  rintro e w2 ⟨rfl, rfl⟩
  rw [HI.out]
  go_wp2
  go_loopw [3, 4] (fun q i wr => ∃ j : Nat, j ≤ n ∧ i = .int .i64 j ∧ Own 9 w.heap.size wr q (strs (rowsT (m.take j))) ∧ Below w.heap.size w wr) (fun _ i _ => n - (intOf i).toNat)
  case atStart => exact ⟨0, Nat.zero_le _, rfl, Own.empty _ _, below_alloc _ _⟩
  case round =>
    obtain ⟨j, hj, rfl, hq, hbq⟩ := hrel
    have hsq := hbq.size
    by_cases hlt : j < n
    · obtain ⟨b, off, u, r, rfl, hc, HXj, hu⟩ := HC.out j hlt
      have hc1 := cell_keep hbq hc
      have hx : ∀ x ∈ r, 0 ≤ x ∧ x ≤ 1000000 := fun x hx => by
        obtain ⟨j', hj', e⟩ := List.getElem_of_mem hx
        exact isMat_num HI.out HXj.out (show r[j']? = some x by rw [List.getElem?_eq_getElem hj', e])
      have hrl : r.length ≤ 9 := by have := isMat_row HI.out HXj.out; have := HL.out; omega
      have HS := Lib.hid (rowsT_take_succ HXj.out)
      have HLq : Hid ((rowsT (m.take j)).length ≤ 9) := Lib.hid (by rw [rowsT_len, List.length_take]; omega)
      obtain ⟨T, hT⟩ : ∃ T, rowT r = T := ⟨_, rfl⟩
      have hT2 : joined (mtxs r) ⟨#[44]⟩ = T := hT
      have hC := Lib.hid (sNumbers u r ⟨#[44]⟩ wr (hu.keep hbq) hx (by omega) (Nat.le_refl 1))
      rw [hT2] at hC
      rw [hT] at HS
      clear hT hT2 hx hrl
      obtain ⟨a', n', cap', rfl, -⟩ := hu.open
      go_wp2_with fail
      refine hC.out.mono ?_
      rintro e w3 ⟨rfl, hb3⟩
      have b3 := hbq.trans (hb3.mono hsq)
      have hq3 := hq.keep hb3
      have hs3 := b3.size
      go_wp2_with (at_builtin; refine app1 39 9 16 (.string ByteArray.empty) Tryz.underlying39 Tryz.infoStr rfl hq3 (.string T) rfl ?h1 ?h2 hs3 rfl _ _ rfl rfl rfl (by simp) ?_)
      case h1 => rw [strs_length]; have := HLq.out; unfold maxLen; omega
      case h2 => rw [strs_length]; have := HLq.out; omega
      intro q' w4 hq4 hg _
      go_wp2
      go_roundw
      case rel => exact ⟨j + 1, by omega, by go_num, by rw [HS.out, strs_append]; exact hq4, b3.trans (hq3.below hg (Nat.le_refl _) hs3)⟩
      case measure => simp [intOf]; omega
    · have e : j = n := by omega
      subst e
      have HA : Hid (rowsT (m.take j) = rowsT m) := Lib.hid (by rw [List.take_of_length_le (by rw [HL.out]; exact Nat.le_refl _)])
      rw [HA.out] at hq
      have hJ := Lib.hid (sJoin _ (rowsT m) ⟨#[47]⟩ wr hq.row (by have := HT.out; omega) (show 1 ≤ 1048576 by omega))
      rw [← HR.out] at hJ
      obtain ⟨aq, cq, rfl⟩ := hq.form rfl
      go_wp2_with fail
      refine hJ.out.mono ?_
      rintro e w5 ⟨rfl, hb5⟩
      have b5 := hbq.trans (hb5.mono hsq)
      go_wp2
      go_ret
      exact ⟨rfl, b5⟩
set_option maxRecDepth 10000 in
set_option maxHeartbeats 400000 in
theorem iMatrixText (v : Value) (m : List (List Int)) (w : World) (h : Mat w v m) (ht : Tb w) :
    Calls Tryz.prog 25 #[v] w fun e w' => e = .returned (.string (matT m)) ∧ Below w.heap.size w w' := by
  have HM := Lib.hid h
  obtain ⟨a, n, cap, rfl, HL, hn, HC⟩ := h.open
  clear h
  cases hm : isMat m
  · have HI := Lib.hid hm
    have HR : Hid (matT m = ByteArray.empty) := Lib.hid (by unfold matT; rw [hm]; rfl)
    clear hm
    go_enter Tryz.func25, Tryz.ntmps25
    go_wp2_with fail
    refine (iIsMatrix _ m _ HM.out).mono ?_
    rintro e w2 ⟨rfl, rfl⟩
    rw [HI.out]
    go_wp2
    go_ret
    exact ⟨ret_str HR.out.symm, Below.refl _ _⟩
  have HT := Lib.hid (rowsT_total hm)
  have HI := Lib.hid hm
  have HR : Hid (matT m = joined (rowsT m) ⟨#[47]⟩) := Lib.hid (by unfold matT; rw [hm]; rfl)
  have n9 : n ≤ 9 := by have := HL.out; have := isMat_len hm; omega
  clear hm
  go_enter Tryz.func25, Tryz.ntmps25
  go_wp2_with fail
  refine (iIsMatrix _ m _ HM.out).mono ?_
  rintro e w2 ⟨rfl, rfl⟩
  rw [HI.out]
  go_wp2
  go_loopw [3, 5, 12] (fun q _ i wr => ∃ j : Nat, j ≤ n ∧ i = .int .i64 j ∧ Own 9 w.heap.size wr q (strs (rowsT (m.take j))) ∧ Below w.heap.size w wr) (fun _ _ i _ => n - (intOf i).toNat)
  case atStart => exact ⟨0, Nat.zero_le _, rfl, Own.empty _ _, below_alloc _ _⟩
  case round =>
    obtain ⟨j, hj, rfl, hq, hbq⟩ := hrel
    have hsq := hbq.size
    by_cases hlt : j < n
    · obtain ⟨b, off, u, r, rfl, hc, HXj, hu⟩ := HC.out j hlt
      have hc1 := cell_keep hbq hc
      have hx : ∀ x ∈ r, 0 ≤ x ∧ x ≤ 1000000 := fun x hx => by
        obtain ⟨j', hj', e⟩ := List.getElem_of_mem hx
        exact isMat_num HI.out HXj.out (show r[j']? = some x by rw [List.getElem?_eq_getElem hj', e])
      have hrl : r.length ≤ 9 := by have := isMat_row HI.out HXj.out; have := HL.out; omega
      have HS := Lib.hid (rowsT_take_succ HXj.out)
      have HLq : Hid ((rowsT (m.take j)).length ≤ 9) := Lib.hid (by rw [rowsT_len, List.length_take]; omega)
      obtain ⟨T, hT⟩ : ∃ T, rowT r = T := ⟨_, rfl⟩
      have hT2 : joined (mtxs r) ⟨#[44]⟩ = T := hT
      have hC := Lib.hid (iNumbers u r ⟨#[44]⟩ wr (hu.keep hbq) hx (by omega) (Nat.le_refl 1) (ht.keep hbq))
      rw [hT2] at hC
      rw [hT] at HS
      clear hT hT2 hx hrl
      obtain ⟨a', n', cap', rfl, -⟩ := hu.open
      go_wp2_with fail
      refine hC.out.mono ?_
      rintro e w3 ⟨rfl, hb3⟩
      have b3 := hbq.trans (hb3.mono hsq)
      have hq3 := hq.keep hb3
      have hs3 := b3.size
      go_wp2_with (at_builtin; refine app1 39 9 16 (.string ByteArray.empty) Tryz.underlying39 Tryz.infoStr rfl hq3 (.string T) rfl ?h1 ?h2 hs3 rfl _ _ rfl rfl rfl (by simp) ?_)
      case h1 => rw [strs_length]; have := HLq.out; unfold maxLen; omega
      case h2 => rw [strs_length]; have := HLq.out; omega
      intro q' w4 hq4 hg _
      go_wp2
      go_roundw
      case rel => exact ⟨j + 1, by omega, by go_num, by rw [HS.out, strs_append]; exact hq4, b3.trans (hq3.below hg (Nat.le_refl _) hs3)⟩
      case measure => simp [intOf]; omega
    · have e : j = n := by omega
      subst e
      have HA : Hid (rowsT (m.take j) = rowsT m) := Lib.hid (by rw [List.take_of_length_le (by rw [HL.out]; exact Nat.le_refl _)])
      rw [HA.out] at hq
      have hJ := Lib.hid (iStrJoin _ (rowsT m) ⟨#[47]⟩ wr hq.row (by have := HT.out; omega) (show 1 ≤ 1048576 by omega))
      rw [← HR.out] at hJ
      obtain ⟨aq, cq, rfl⟩ := hq.form rfl
      go_wp2_with fail
      refine hJ.out.mono ?_
      rintro e w5 ⟨rfl, hb5⟩
      have b5 := hbq.trans (hb5.mono hsq)
      go_wp2
      go_ret
      exact ⟨rfl, b5⟩
end Go.Proofs.YtkohadoicebojaaGreatDoor

namespace Go.Proofs.YtkohadoicebojaaGreatDoor
open Go.RowKit Go.Deep
def shTexts (k : Int) (l : List ByteArray) : List ByteArray := fmtI k :: l
def shT (k : Int) (l : List ByteArray) : ByteArray := if isShift k l then joined (shTexts k l) ⟨#[32]⟩ else ByteArray.empty
theorem isShift_small {k : Int} {l : List ByteArray} (h : isShift k l = true) : l.length + totalS l ≤ 1000 := by
  unfold isShift at h
  simp only [Bool.and_eq_true, decide_eq_true_eq] at h
  obtain ⟨_, h8, hall⟩ := h
  have key : ∀ s ∈ l, s.size ≤ 3 := fun s hs => by
    obtain ⟨i, hi, e⟩ := List.getElem_of_mem hs
    have h1 := List.all_eq_true.1 hall i (List.mem_range.2 hi)
    unfold shAt at h1
    simp only [Bool.and_eq_true] at h1
    have h2 := inR_iff.1 h1.2.1
    rw [getD_of_get (show l[i]? = some s by rw [List.getElem?_eq_getElem hi, e])] at h2
    omega
  have := totalS_le key
  omega
theorem sh_total {k : Int} {l : List ByteArray} (hk : (fmtI k).size ≤ 21) (hl : l.length + totalS l ≤ 1000000) : (shTexts k l).length + totalS (shTexts k l) ≤ 1048576 := by
  have e : totalS (shTexts k l) = (fmtI k).size + totalS l := by simp [shTexts, totalS]
  rw [e]
  unfold shTexts
  rw [List.length_cons]; omega
set_option maxRecDepth 10000 in
set_option maxHeartbeats 400000 in
theorem sShiftText (k : Int) (v : Value) (l : List ByteArray) (w : World) (h : Strs w v l) (hz : ∀ s ∈ l, s.size ≤ 1048576) (hk0 : -9223372036854775808 ≤ k) (hk1 : k ≤ 9223372036854775807) :
    Calls Tryz.prog 49 #[.agg #[.int .i64 k, v]] w fun e w' => e = .returned (.string (shT k l)) ∧ Below w.heap.size w w' := by
  have HS := Lib.hid h
  obtain ⟨a, n, cap, rfl, HL, hn, -⟩ := h.open
  have hx : ∀ o, Below w.heap.size w (w.alloc o) := fun o => below_alloc w o
  have hI := Lib.hid (sIsShift k _ l (w.alloc (.cells #[.int .i64 k, .slice a n cap] 41)) (HS.out.keep (hx _)) hz)
  have c0 : (w.alloc (.cells #[.int .i64 k, .slice a n cap] 41)).cell? ⟨w.heap.size, 0, none⟩ = some (.int .i64 k) := by simp
  have c1 : (w.alloc (.cells #[.int .i64 k, .slice a n cap] 41)).cell? ⟨w.heap.size, 1, none⟩ = some (.slice a n cap) := by simp
  have z0 : (w.alloc (.cells #[.int .i64 k, .slice a n cap] 41)).heap.size = w.heap.size + 1 := by simp
  clear h hz
  cases hm : isShift k l
  · have HR : Hid (shT k l = ByteArray.empty) := Lib.hid (by unfold shT; rw [hm]; rfl)
    have HI := Lib.hid hm; clear hm
    go_enter Tryz.func49, Tryz.ntmps49
    go_wp2_with fail
    refine hI.out.mono ?_
    rintro e w2 ⟨rfl, hb2⟩
    rw [HI.out]
    have b2 := (hx _).trans (hb2.mono (show w.heap.size ≤ _ by omega))
    go_wp2
    go_ret
    exact ⟨ret_str HR.out.symm, b2⟩
  have HR : Hid (shT k l = joined (shTexts k l) ⟨#[32]⟩) := Lib.hid (by unfold shT; rw [hm]; rfl)
  have hF := fmtI_small hk0 hk1
  have hlt := isShift_small hm
  have HT := Lib.hid (sh_total (k := k) (l := l) hF (by omega))
  have HI := Lib.hid hm; clear hm
  obtain ⟨T, hT⟩ : ∃ T, fmtI k = T := ⟨_, rfl⟩
  have HX : Hid (shTexts k l = [T] ++ l) := Lib.hid (by unfold shTexts; rw [hT]; rfl)
  go_enter Tryz.func49, Tryz.ntmps49
  go_wp2_with fail
  refine hI.out.mono ?_
  rintro e w2 ⟨rfl, hb2⟩
  rw [HI.out]
  have b2 : Below w.heap.size w w2 := (hx _).trans (hb2.mono (show w.heap.size ≤ _ by omega))
  have q0 := cell_keep hb2 c0
  have q1 := cell_keep hb2 c1
  clear c0 c1 z0 hb2 hI
  have key : Hid (∀ w', Below w.heap.size w w' → Calls Tryz.prog 99 #[.int .i64 k] w' fun e w'' => e = .returned (.string T) ∧ Below w'.heap.size w' w'') := Lib.hid fun w' hb => by rw [← hT]; exact sFormatInt k w' (by omega) (by omega)
  clear hT
  have hn1 : n ≤ 1000000 := by have := HL.out; omega
  have b2d := b2.drew
  have q1d : w2.drew.cell? ⟨w.heap.size, 1, none⟩ = some (.slice a n cap) := by simpa using q1
  have e7 : strs [T] ++ strs l = strs (shTexts k l) := by rw [HX.out, strs_append]
  have HE := Lib.hid e7; clear e7
  have hl6 : (strs [T]).length + (strs l).length ≤ maxLen := by rw [strs_length, strs_length, HL.out]; unfold maxLen; simp; omega
  have hl7 : ((strs [T]).length + (strs l).length) * 16 ≤ 140737488355328 := by rw [strs_length, strs_length, HL.out]; simp; omega
  have HLA := Lib.hid hl6
  have HLB := Lib.hid hl7
  clear hl6 hl7
  go_wp2
  go_region_law (first
    | (go_simp; go_at_call 99; refine (key.out _ b2d).mono ?_; rintro e w6 ⟨rfl, hb6⟩; have b6 : Below w.heap.size w w6 := b2d.trans (hb6.mono b2d.size); have hA := below_alloc w6 (.cells #[.string T] 9); have r1 := cell_keep hb6 q1d; have r2 := cell_keep hA r1; have ho6 : Own 9 w6.heap.size (w6.alloc (.cells #[.string T] 9)) (.slice (some ⟨w6.heap.size, 0, none⟩) 1 1) (strs [T]) := World.ownsRow_lit w6 #[.string T] 1 (Nat.le_refl _) (by simp [maxLen]) rfl; have b6a : Below w.heap.size w (w6.alloc (.cells #[.string T] 9)) := b6.trans (hA.mono b6.size); have hr6 := Lib.hid (HS.out.keep b6a))
    | (refine appLs 39 9 16 (.string ByteArray.empty) Tryz.underlying39 Tryz.infoStr rfl ho6 hr6.out (strs_one _) HLA.out HLB.out hA.size (by rfl) _ _ (by rfl) (by rfl) (by rfl) ?_; intro v' w7 ho7 hg7; have b7 := b6a.trans (ho6.below hg7 b6.size (Nat.le_trans b6.size hA.size)); rw [HE.out] at ho7; have hj7 := Lib.hid (sJoin _ (shTexts k l) ⟨#[32]⟩ w7 ho7.row HT.out (by decide)); rw [← HR.out] at hj7; obtain ⟨aq, cq, rfl⟩ := ho7.form rfl)
    | (go_simp; go_at_call 77; refine hj7.out.mono ?_; rintro e w8 ⟨rfl, hb8⟩; have b8 := b7.trans (hb8.mono b7.size)))
  all_goals (go_wp2; go_ret; exact ⟨rfl, b8⟩)
set_option maxRecDepth 10000 in
set_option maxHeartbeats 400000 in
theorem iShiftText (k : Int) (v : Value) (l : List ByteArray) (w : World) (h : Strs w v l) (hz : ∀ s ∈ l, s.size ≤ 1048576) (hk0 : -9223372036854775808 ≤ k) (hk1 : k ≤ 9223372036854775807) (ht : Tb w) :
    Calls Tryz.prog 48 #[.agg #[.int .i64 k, v]] w fun e w' => e = .returned (.string (shT k l)) ∧ Below w.heap.size w w' := by
  have HS := Lib.hid h
  obtain ⟨a, n, cap, rfl, HL, hn, -⟩ := h.open
  have hx : ∀ o, Below w.heap.size w (w.alloc o) := fun o => below_alloc w o
  have hI := Lib.hid (iIsShift k _ l (w.alloc (.cells #[.int .i64 k, .slice a n cap] 41)) (HS.out.keep (hx _)) hz)
  have c0 : (w.alloc (.cells #[.int .i64 k, .slice a n cap] 41)).cell? ⟨w.heap.size, 0, none⟩ = some (.int .i64 k) := by simp
  have c1 : (w.alloc (.cells #[.int .i64 k, .slice a n cap] 41)).cell? ⟨w.heap.size, 1, none⟩ = some (.slice a n cap) := by simp
  have z0 : (w.alloc (.cells #[.int .i64 k, .slice a n cap] 41)).heap.size = w.heap.size + 1 := by simp
  clear h hz
  cases hm : isShift k l
  · have HR : Hid (shT k l = ByteArray.empty) := Lib.hid (by unfold shT; rw [hm]; rfl)
    have HI := Lib.hid hm; clear hm
    go_enter Tryz.func48, Tryz.ntmps48
    go_wp2_with fail
    refine hI.out.mono ?_
    rintro e w2 ⟨rfl, hb2⟩
    rw [HI.out]
    have b2 := (hx _).trans (hb2.mono (show w.heap.size ≤ _ by omega))
    go_wp2
    go_ret
    exact ⟨ret_str HR.out.symm, b2⟩
  have HR : Hid (shT k l = joined (shTexts k l) ⟨#[32]⟩) := Lib.hid (by unfold shT; rw [hm]; rfl)
  have hF := fmtI_small hk0 hk1
  have hlt := isShift_small hm
  have HT := Lib.hid (sh_total (k := k) (l := l) hF (by omega))
  have HI := Lib.hid hm; clear hm
  obtain ⟨T, hT⟩ : ∃ T, fmtI k = T := ⟨_, rfl⟩
  have HX : Hid (shTexts k l = [T] ++ l) := Lib.hid (by unfold shTexts; rw [hT]; rfl)
  go_enter Tryz.func48, Tryz.ntmps48
  go_wp2_with fail
  refine hI.out.mono ?_
  rintro e w2 ⟨rfl, hb2⟩
  rw [HI.out]
  have b2 : Below w.heap.size w w2 := (hx _).trans (hb2.mono (show w.heap.size ≤ _ by omega))
  have q0 := cell_keep hb2 c0
  have q1 := cell_keep hb2 c1
  clear c0 c1 z0 hb2 hI
  have key : Hid (∀ w', Below w.heap.size w w' → Calls Tryz.prog 98 #[.int .i64 k] w' fun e w'' => e = .returned (.string T) ∧ Below w'.heap.size w' w'') := Lib.hid fun w' hb => by rw [← hT]; exact iFormatInt k w' (by omega) (by omega) (ht.keep hb)
  clear hT
  have hn1 : n ≤ 1000000 := by have := HL.out; omega
  have b2d := b2.drew
  have q1d : w2.drew.cell? ⟨w.heap.size, 1, none⟩ = some (.slice a n cap) := by simpa using q1
  have e7 : strs [T] ++ strs l = strs (shTexts k l) := by rw [HX.out, strs_append]
  have HE := Lib.hid e7; clear e7
  have hl6 : (strs [T]).length + (strs l).length ≤ maxLen := by rw [strs_length, strs_length, HL.out]; unfold maxLen; simp; omega
  have hl7 : ((strs [T]).length + (strs l).length) * 16 ≤ 140737488355328 := by rw [strs_length, strs_length, HL.out]; simp; omega
  have HLA := Lib.hid hl6
  have HLB := Lib.hid hl7
  clear hl6 hl7
  go_wp2
  go_region_law (first
    | (go_simp; go_at_call 98; refine (key.out _ b2d).mono ?_; rintro e w6 ⟨rfl, hb6⟩; have b6 : Below w.heap.size w w6 := b2d.trans (hb6.mono b2d.size); have hA := below_alloc w6 (.cells #[.string T] 9); have r1 := cell_keep hb6 q1d; have r2 := cell_keep hA r1; have ho6 : Own 9 w6.heap.size (w6.alloc (.cells #[.string T] 9)) (.slice (some ⟨w6.heap.size, 0, none⟩) 1 1) (strs [T]) := World.ownsRow_lit w6 #[.string T] 1 (Nat.le_refl _) (by simp [maxLen]) rfl; have b6a : Below w.heap.size w (w6.alloc (.cells #[.string T] 9)) := b6.trans (hA.mono b6.size); have hr6 := Lib.hid (HS.out.keep b6a))
    | (refine appLs 39 9 16 (.string ByteArray.empty) Tryz.underlying39 Tryz.infoStr rfl ho6 hr6.out (strs_one _) HLA.out HLB.out hA.size (by rfl) _ _ (by rfl) (by rfl) (by rfl) ?_; intro v' w7 ho7 hg7; have b7 := b6a.trans (ho6.below hg7 b6.size (Nat.le_trans b6.size hA.size)); rw [HE.out] at ho7; have hj7 := Lib.hid (iStrJoin _ (shTexts k l) ⟨#[32]⟩ w7 ho7.row HT.out (by decide)); rw [← HR.out] at hj7; obtain ⟨aq, cq, rfl⟩ := ho7.form rfl)
    | (go_simp; go_at_call 75; refine hj7.out.mono ?_; rintro e w8 ⟨rfl, hb8⟩; have b8 := b7.trans (hb8.mono b7.size)))
  all_goals (go_wp2; go_ret; exact ⟨rfl, b8⟩)
end Go.Proofs.YtkohadoicebojaaGreatDoor

namespace Go.Proofs.YtkohadoicebojaaGreatDoor
open Go.RowKit Go.Deep
theorem cutA_pass {b : UInt8} : ∀ (x r acc : List UInt8), b ∉ x → cutA b acc (x ++ r) = cutA b (acc ++ x) r := by
  intro x
  induction x with
  | nil => intro r acc _; simp
  | cons c x ih =>
    intro r acc h
    rw [List.cons_append, cutA, if_neg (fun e => h (by rw [e]; exact List.mem_cons_self ..)), ih r _ (fun hm => h (List.mem_cons_of_mem _ hm)), List.append_assoc]
    rfl
theorem cutA_hit (b : UInt8) (acc r : List UInt8) : cutA b acc (b :: r) = acc :: cutA b [] r := by rw [cutA, if_pos rfl]
theorem join_one (x sep : List UInt8) : Lib.join [x] sep = x := by simp [Lib.join, List.intercalate]
theorem join_two (x y : List UInt8) (l : List (List UInt8)) (sep : List UInt8) : Lib.join (x :: y :: l) sep = x ++ sep ++ Lib.join (y :: l) sep := by
  simp [Lib.join, List.intercalate, List.intersperse]
theorem cut_join {b : UInt8} : ∀ (L : List (List UInt8)), L ≠ [] → (∀ x ∈ L, b ∉ x) → cutA b [] (Lib.join L [b]) = L := by
  intro L
  induction L with
  | nil => intro h; exact absurd rfl h
  | cons x L ih =>
    intro _ h
    cases L with
    | nil =>
      rw [join_one]
      have := cutA_pass x [] [] (h x (List.mem_cons_self ..))
      rw [List.append_nil, List.nil_append] at this
      rw [this]; rfl
    | cons y l =>
      rw [join_two, List.append_assoc, cutA_pass x _ [] (h x (List.mem_cons_self ..)), List.nil_append, List.singleton_append, cutA_hit, ih (by simp) fun z hz => h z (List.mem_cons_of_mem _ hz)]
theorem bts_sep (b : UInt8) : bts ⟨#[b]⟩ = [b] := rfl
theorem splL_joined {b : UInt8} {L : List ByteArray} (h0 : L ≠ []) (h : ∀ s ∈ L, b ∉ bts s) : splL (joined L ⟨#[b]⟩) b = L := by
  refine splL_of ?_
  unfold joined
  rw [bts_str, bts_sep, cut_join _ (by simpa using h0)]
  intro x hx
  obtain ⟨s, hs, rfl⟩ := List.mem_map.1 hx
  exact h s hs
theorem join_mem {sep : List UInt8} {c : UInt8} : ∀ {L : List (List UInt8)}, c ∈ Lib.join L sep → c ∈ sep ∨ ∃ x ∈ L, c ∈ x := by
  intro L
  induction L with
  | nil => intro h; simp [Lib.join, List.intercalate] at h
  | cons x L ih =>
    intro h
    cases L with
    | nil => rw [join_one] at h; exact .inr ⟨x, List.mem_cons_self .., h⟩
    | cons y l =>
      rw [join_two, List.append_assoc, List.mem_append, List.mem_append] at h
      rcases h with h | h | h
      · exact .inr ⟨x, List.mem_cons_self .., h⟩
      · exact .inl h
      · rcases ih h with h | ⟨z, hz, h⟩
        · exact .inl h
        · exact .inr ⟨z, List.mem_cons_of_mem _ hz, h⟩
theorem fmtI_bts {n : Int} (h : 0 ≤ n) : bts (fmtI n) = Lib.decDigits n.toNat := by
  obtain ⟨u, rfl⟩ : ∃ u : Nat, n = u := ⟨n.toNat, by omega⟩
  unfold fmtI
  rw [bts_str, Lib.itoa_nonneg, Int.toNat_natCast]
theorem fmtI_dg {n : Int} (h : 0 ≤ n) : ∀ c ∈ bts (fmtI n), isDg c := by rw [fmtI_bts h]; exact dec_all _
theorem fmtI_ne {n : Int} (h : 0 ≤ n) : fmtI n ≠ ByteArray.empty := fun e => by
  have h1 := fmtI_bts h
  rw [e] at h1
  exact dec_ne _ h1.symm
theorem isDg_ne {c b : UInt8} (h : isDg c) (hb : b.toNat < 48) : c ≠ b := fun e => by
  subst e
  have := h.1
  omega
theorem splL_empty (b : UInt8) : splL ByteArray.empty b = [ByteArray.empty] := splL_of (by rfl)
/-- The text of a matrix is read back. -/
theorem matT_rows {m : List (List Int)} (h : isMat m = true) : rowsP (matT m) = m.map txts := by
  have hl := isMat_len h
  have hin : ∀ r ∈ m, ∀ x ∈ r, 0 ≤ x := fun r hr x hx => (isMat_in h r hr x hx).1
  have hrow : ∀ r ∈ m, r ≠ [] := fun r hr e => by
    obtain ⟨i, hi, e2⟩ := List.getElem_of_mem hr
    have := isMat_row h (show m[i]? = some r by rw [List.getElem?_eq_getElem hi, e2])
    rw [e] at this; simp at this; omega
  unfold matT rowsP
  rw [h]
  show (splL (joined (rowsT m) ⟨#[47]⟩) 47).map _ = _
  rw [splL_joined]
  · unfold rowsT
    rw [List.map_map]
    refine List.map_congr_left fun r hr => ?_
    show splL (rowT r) 44 = txts r
    unfold rowT
    rw [splL_joined]
    · rfl
    · intro e
      have h1 := congrArg List.length e
      rw [mtxs_len] at h1
      exact hrow r hr (List.length_eq_zero_iff.1 h1)
    · intro s hs
      obtain ⟨x, hx, rfl⟩ := List.mem_map.1 hs
      exact fun hc => isDg_ne (fmtI_dg (hin r hr x hx) _ hc) (by decide) rfl
  · intro e
    have h1 := congrArg List.length e
    rw [rowsT_len, List.length_nil] at h1
    omega
  · intro s hs
    obtain ⟨r, hr, rfl⟩ := List.mem_map.1 hs
    unfold rowT joined
    rw [bts_str]
    intro hc
    rcases join_mem hc with h2 | ⟨y, hy, h2⟩
    · rw [bts_sep] at h2; simp at h2
    · obtain ⟨t, ht, rfl⟩ := List.mem_map.1 hy
      obtain ⟨x, hx, rfl⟩ := List.mem_map.1 ht
      exact isDg_ne (fmtI_dg (hin r hr x hx) _ h2) (by decide) rfl
theorem matT_back {m m' : List (List Int)} {b : Bool} (h : MatR (matT m) m' b) : b = isMat m ∧ (isMat m = true → m' = m) := by
  cases hm : isMat m
  · refine ⟨?_, fun h => by cases h⟩
    rcases h with ⟨rfl, h1, h2⟩ | ⟨rfl, _⟩
    · exfalso
      have e : matT m = ByteArray.empty := by unfold matT; rw [hm]; rfl
      rw [e] at h1
      unfold rowsP at h1
      rw [splL_empty, List.map_cons, splL_empty, List.map_nil] at h1
      cases m' with
      | nil => simp at h1
      | cons r m' =>
        rw [List.map_cons] at h1
        injection h1 with h1 h3
        cases r with
        | nil => simp [txts] at h1
        | cons x r =>
          have hx := (isMat_in h2 (x :: r) (List.mem_cons_self ..) x (List.mem_cons_self ..)).1
          unfold txts at h1
          rw [List.map_cons] at h1
          injection h1 with h1 h4
          exact fmtI_ne hx h1.symm
    · rfl
  · have h0 : MatR (matT m) m true := .inl ⟨rfl, matT_rows hm, hm⟩
    obtain ⟨e1, e2⟩ := MatR.eq h h0
    exact ⟨e2, fun _ => e1⟩
end Go.Proofs.YtkohadoicebojaaGreatDoor

namespace Go.Proofs.YtkohadoicebojaaGreatDoor
open Go.RowKit Go.Deep
theorem growB {w w' : World} (h : Below w.heap.size w w') (b : Option Nat) : w.grownBy w' b := ⟨h.os, h.tape, h.output, h.size, fun k hk _ => h.block k hk⟩
theorem growT {w w1 w2 : World} {b b1 : Option Nat} (h : w.grownBy w1 b) (h2 : w1.grownBy w2 b1) (hb : b1 = b ∨ ∀ k, b1 = some k → w.heap.size ≤ k) : w.grownBy w2 b := by
  refine ⟨h2.os.trans h.os, h2.tape.trans h.tape, h2.output.trans h.output, Nat.le_trans h.size h2.size, fun k hk hne => (h2.block k (Nat.lt_of_lt_of_le hk h.size) fun e => ?_).trans (h.block k hk hne)⟩
  rcases hb with hb | hb
  · exact hne (e.trans hb)
  · have := hb k e.symm; omega
def mdgt (x : Nat) : UInt8 := UInt8.ofNat (48 + x)
theorem mdgt_nat {x : Nat} (h : x < 10) : ((mdgt x).toNat : Int) = 48 + (x : Int) := by
  have : x = 0 ∨ x = 1 ∨ x = 2 ∨ x = 3 ∨ x = 4 ∨ x = 5 ∨ x = 6 ∨ x = 7 ∨ x = 8 ∨ x = 9 := by omega
  rcases this with rfl | rfl | rfl | rfl | rfl | rfl | rfl | rfl | rfl | rfl <;> rfl
def mdig : Nat → Nat → ByteArray → ByteArray
  | 0, _, o => o
  | f + 1, k, o => if k = 0 then o else mdig f (k / 10) (str [mdgt (k % 10)] ++ o)
def mtx (k : Nat) : ByteArray := if k = 0 then ⟨#[109, 48]⟩ else ⟨#[109]⟩ ++ mdig (k + 1) k ByteArray.empty
theorem mdig_end {f : Nat} (h : 0 < f) (o : ByteArray) : mdig f 0 o = o := by
  obtain ⟨g, rfl⟩ : ∃ g, f = g + 1 := ⟨f - 1, by omega⟩
  rw [mdig, if_pos rfl]
theorem mdig_step {f k : Nat} (h : 0 < k) (o : ByteArray) : mdig (f + 1) k o = mdig f (k / 10) (str [mdgt (k % 10)] ++ o) := by rw [mdig, if_neg (by omega)]
/-- The marks. -/
def smarks (k n : Nat) : List ByteArray := (List.range n).map fun i => mtx (k + i)
theorem smarks_length (k n : Nat) : (smarks k n).length = n := by simp [smarks]
theorem smarks_get {k n i : Nat} (h : i < n) : (smarks k n)[i]? = some (mtx (k + i)) := by simp [smarks, h]
theorem smarks_succ (k n : Nat) : smarks k (n + 1) = smarks k n ++ [mtx (k + n)] := by simp [smarks, List.range_succ]
def smarkTo (k : Nat) (l : List ByteArray) (j : Nat) : List ByteArray := smarks k j ++ l.drop j
theorem smarkTo_zero (k : Nat) (l : List ByteArray) : smarkTo k l 0 = l := by simp [smarkTo, smarks]
theorem smarkTo_all (k : Nat) (l : List ByteArray) : smarkTo k l l.length = smarks k l.length := by simp [smarkTo]
theorem smarkTo_get (k : Nat) {l : List ByteArray} {j : Nat} (h : j < l.length) : ∃ x, (smarkTo k l j)[j]? = some x := ⟨_, List.getElem?_eq_getElem (by simp [smarkTo, smarks_length]; omega)⟩
theorem smarkTo_step (k : Nat) {l : List ByteArray} {j : Nat} (h : j < l.length) : (strs (smarkTo k l j)).set j (.string (mtx (k + j))) = strs (smarkTo k l (j + 1)) := by
  have e : (smarkTo k l j).set j (mtx (k + j)) = smarkTo k l (j + 1) := by
    unfold smarkTo
    rw [List.set_append_right _ _ (by rw [smarks_length]; exact Nat.le_refl _), smarks_length, Nat.sub_self, drop_set0 h, smarks_succ, List.append_assoc]; rfl
  rw [← e]; simp [strs, List.map_set]
theorem OwnSH.grown2 {te : TypeId} {B H : Nat} {w w' : World} {v u : Value} {l : List ByteArray} (h : OwnSH te B H w v l) (hg : w.grownBy w' u.ownBlock) (hu : ∀ k, u.ownBlock = some k → H ≤ k) : OwnSH te B H w' v l := by
  refine ⟨h.1.grown hg ?_, h.2⟩
  cases e : v.ownBlock with
  | none => exact .inl rfl
  | some k =>
    refine .inr fun e2 => ?_
    have h1 := h.2 k e
    have h2 := hu k e2.symm
    omega
theorem belowN {a b c : World} (h : Below a.heap.size a b) (k : Below b.heap.size b c) : Below a.heap.size a c := h.trans (k.mono h.size)
end Go.Proofs.YtkohadoicebojaaGreatDoor

namespace Go.Proofs.YtkohadoicebojaaGreatDoor
open Go.RowKit Go.Deep
theorem OwnSH.grown3 {te : TypeId} {B H : Nat} {w w' : World} {v u : Value} {l : List ByteArray} (h : OwnSH te B H w v l) (hg : w.grownBy w' u.ownBlock) (hu : ∀ k, u.ownBlock = some k → k < B) : OwnSH te B H w' v l := by
  refine ⟨h.1.grown hg ?_, h.2⟩
  cases e : v.ownBlock with
  | none => exact .inl rfl
  | some k =>
    refine .inr fun e2 => ?_
    have h1 := (h.1.lt k e).1
    have h2 := hu k e2.symm
    omega
end Go.Proofs.YtkohadoicebojaaGreatDoor

namespace Go.Proofs.YtkohadoicebojaaGreatDoor
open Go.RowKit Go.Deep
/-- A slice of texts that the call owns; it may begin behind the first of its block. -/
def OwnX (te : TypeId) (B : Nat) (w : World) (v : Value) (l : List ByteArray) : Prop :=
  Own te B w v (strs l) ∨ ∃ g o p cap, v = .slice (some ⟨g, o, none⟩) l.length cap ∧ (l = [] ∨ o = 1) ∧ Own te B w (.slice (some ⟨g, 0, none⟩) (l.length + 1) (cap + 1)) (strs (p :: l))
theorem OwnX.keep {te : TypeId} {B : Nat} {w w' : World} {v : Value} {l : List ByteArray} (h : OwnX te B w v l) (hb : Below w.heap.size w w') : OwnX te B w' v l := by
  rcases h with h | ⟨g, o, p, cap, h1, h0, h2⟩
  · exact .inl (h.keep hb)
  · exact .inr ⟨g, o, p, cap, h1, h0, h2.keep hb⟩
theorem OwnX.mono {te : TypeId} {B B' : Nat} {w : World} {v : Value} {l : List ByteArray} (h : OwnX te B w v l) (hb : B' ≤ B) : OwnX te B' w v l := by
  rcases h with h | ⟨g, o, p, cap, h1, h0, h2⟩
  · exact .inl (h.mono hb)
  · exact .inr ⟨g, o, p, cap, h1, h0, h2.mono hb⟩
theorem OwnX.lt {te : TypeId} {B : Nat} {w : World} {v : Value} {l : List ByteArray} (h : OwnX te B w v l) : ∀ k, v.ownBlock = some k → B ≤ k ∧ k < w.heap.size := by
  rcases h with h | ⟨g, o, p, cap, rfl, h0, h2⟩
  · exact h.lt
  · exact fun k hk => h2.lt k hk
theorem OwnX.grown {te : TypeId} {B : Nat} {w w' : World} {v : Value} {l : List ByteArray} {row : Option Nat} (h : OwnX te B w v l) (hg : w.grownBy w' row) (hne : v.ownBlock = none ∨ v.ownBlock ≠ row) : OwnX te B w' v l := by
  rcases h with h | ⟨g, o, p, cap, rfl, h0, h2⟩
  · exact .inl (h.grown hg hne)
  · exact .inr ⟨g, o, p, cap, rfl, h0, h2.grown hg hne⟩
theorem OwnX.below {te : TypeId} {B C : Nat} {w w' : World} {v : Value} {l : List ByteArray} (h : OwnX te B w v l) (hg : w.grownBy w' v.ownBlock) (hC : C ≤ B) (hs : C ≤ w.heap.size) : Below C w w' := by
  rcases h with h | ⟨g, o, p, cap, rfl, h0, h2⟩
  · exact h.below hg hC hs
  · exact h2.below hg hC hs
theorem OwnX.setBelow {te : TypeId} {B : Nat} {w : World} {v : Value} {l : List ByteArray} (h : OwnX te B w v l) {a : Addr} (ha : a.block < B) (u : Value) : OwnX te B (w.setCell a u) v l := by
  rcases h with h | ⟨g, o, p, cap, h1, h0, h2⟩
  · exact .inl (h.setCell_below ha u)
  · exact .inr ⟨g, o, p, cap, h1, h0, h2.setCell_below ha u⟩
theorem own_tail_cell {te : TypeId} {B g n c : Nat} {w : World} {p : ByteArray} {l : List ByteArray} (h : Own te B w (.slice (some ⟨g, 0, none⟩) n c) (strs (p :: l))) {j : Nat} {x : ByteArray} (hx : (p :: l)[j]? = some x) : w.cell? ⟨g, j, none⟩ = some (.string x) := by
  obtain ⟨g', c', e, _, hc, _⟩ := h.at (show (strs (p :: l))[j]? = some (.string x) by rw [strs_get?, hx]; rfl)
  simp only [Value.slice.injEq, Option.some.injEq, Addr.mk.injEq, and_true] at e
  obtain ⟨rfl, _⟩ := e
  exact hc
theorem OwnX.strs {te : TypeId} {B : Nat} {w : World} {v : Value} {l : List ByteArray} (h : OwnX te B w v l) : Strs w v l := by
  rcases h with h | ⟨g, o, p, cap, rfl, h0, h2⟩
  · exact h.row
  · have h3 := h2.row
    obtain ⟨a, c, e, hl, hm, -⟩ := h3
    simp only [Value.slice.injEq] at e
    obtain ⟨rfl, -, rfl⟩ := e
    rw [strs_length, List.length_cons] at hl
    refine ⟨some ⟨g, o, none⟩, cap, by rw [strs_length], by rw [strs_length]; omega, by omega, fun i hi => ⟨g, o, rfl, ?_⟩⟩
    rw [strs_length] at hi
    rcases h0 with rfl | rfl
    · simp at hi
    rw [strs_get, Nat.add_comm]
    exact own_tail_cell h2 (by simp [hi])
theorem own_tail {te : TypeId} {B : Nat} {w : World} {v : Value} {p : ByteArray} {l : List ByteArray} (h : Own te B w v (strs (p :: l))) :
    ∃ g cap, v = .slice (some ⟨g, 0, none⟩) (l.length + 1) (cap + 1) ∧ w.cell? ⟨g, 0, none⟩ = some (.string p) ∧ OwnX te B w (.slice (some ⟨g, if cap = 0 then 0 else 1, none⟩) l.length cap) l ∧ l.length ≤ cap ∧ cap + 1 ≤ maxLen := by
  have h0 := h
  obtain ⟨_, ⟨_, h1⟩ | ⟨g, cap, cur, rfl, hB, hg, hnc, hcm, hcs, ht⟩⟩ := h
  · rw [strs_length] at h1; simp at h1
  · have e1 : (strs (p :: l)).length = l.length + 1 := by rw [strs_length]; rfl
    rw [e1] at h0 hnc ⊢
    obtain ⟨c, rfl⟩ : ∃ c, cap = c + 1 := ⟨cap - 1, by omega⟩
    refine ⟨g, c, rfl, own_tail_cell h0 rfl, .inr ⟨g, _, p, c, rfl, ?_, h0⟩, by omega, hcm⟩
    by_cases hc : c = 0
    · subst hc
      exact .inl (List.length_eq_zero_iff.1 (by omega))
    · rw [if_neg hc]; exact .inr rfl
/-- What reading a shift gives. -/
def ShR (s : ByteArray) (c : Int) (l : List ByteArray) (b : Bool) : Prop := (b = true ∧ splL s 32 = fmtI c :: l ∧ isShift c l = true) ∨ (b = false ∧ c = 0 ∧ l = [] ∧ ∀ c' l', isShift c' l' = true → splL s 32 = fmtI c' :: l' → False)
theorem isShift_num {c : Int} {l : List ByteArray} (h : isShift c l = true) : 1 ≤ c ∧ c ≤ 3 := by
  unfold isShift at h
  simp only [Bool.and_eq_true] at h
  exact inR_iff.1 h.1
theorem ShR.eq {s : ByteArray} {c c' : Int} {l l' : List ByteArray} {b b' : Bool} (h : ShR s c l b) (k : ShR s c' l' b') : c = c' ∧ l = l' ∧ b = b' := by
  rcases h with ⟨rfl, h1, h2⟩ | ⟨rfl, rfl, rfl, h⟩
  · rcases k with ⟨rfl, k1, k2⟩ | ⟨rfl, rfl, rfl, k⟩
    · rw [h1] at k1
      injection k1 with k1 k3
      have n1 := isShift_num h2
      have n2 := isShift_num k2
      have f1 := fmtI_atoi (n := c) (by omega) (by omega) k1
      have f2 := fmtI_atoi (n := c') (by omega) (by omega) rfl
      rw [f1] at f2
      injection f2 with f2
      exact ⟨f2, k3, rfl⟩
    · exact (k c l h2 h1).elim
  · rcases k with ⟨rfl, k1, k2⟩ | ⟨rfl, rfl, rfl, k⟩
    · exact (h c' l' k2 k1).elim
    · exact ⟨rfl, rfl, rfl⟩
theorem shR_bad {s p : ByteArray} {l : List ByteArray} {lo hi n : Int} (hL : splL s 32 = p :: l) (hlo : lo ≤ 1) (hhi : 3 ≤ hi) (h : Rd lo hi p n false) : ShR s 0 [] false := by
  refine .inr ⟨rfl, rfl, rfl, fun c' l' h1 h2 => ?_⟩
  have h3 := isShift_num h1
  rw [hL] at h2
  injection h2 with h2
  rcases h with ⟨h4, _⟩ | ⟨_, _, h4⟩
  · cases h4
  · exact h4 c' (by omega) (by omega) h2.symm
theorem shR_yes {s p : ByteArray} {l : List ByteArray} {lo hi n : Int} (hL : splL s 32 = p :: l) (h : Rd lo hi p n true) (hi : isShift n l = true) : ShR s n l true := by
  refine .inl ⟨rfl, ?_, hi⟩
  rw [hL, (rd_true h).2.2]
theorem shR_no {s p : ByteArray} {l : List ByteArray} {lo hi n : Int} (hL : splL s 32 = p :: l) (hlo : -9223372036854775808 ≤ lo) (hhi : hi ≤ 9223372036854775807) (h : Rd lo hi p n true) (hn : isShift n l = false) : ShR s 0 [] false := by
  refine .inr ⟨rfl, rfl, rfl, fun c' l' h1 h2 => ?_⟩
  have h3 := isShift_num h1
  obtain ⟨r1, r2, r3⟩ := rd_true h
  rw [hL, ← r3] at h2
  injection h2 with h2 h4
  have f1 := fmtI_atoi (n := n) (by omega) (by omega) h2
  have f2 := fmtI_atoi (n := c') (by omega) (by omega) rfl
  rw [f1] at f2
  injection f2 with f2
  rw [f2, h4, h1] at hn
  cases hn
theorem splL_cons (s : ByteArray) (b : UInt8) : ∃ p l, splL s b = p :: l := by
  have h := splL_len s b
  cases e : splL s b with
  | nil => rw [e] at h; simp at h
  | cons p l => exact ⟨p, l, rfl⟩
def ShE (s : ByteArray) (w : World) (e : Ending) (w' : World) : Prop := ∃ c v l b, e = .returned (.tuple #[.agg #[.int .i64 c, v], .bool b]) ∧ OwnX 9 w.heap.size w' v l ∧ Hid (ShR s c l b) ∧ Below w.heap.size w w'
theorem shE {s : ByteArray} {w w' : World} {e : Ending} {c : Int} {v : Value} {l : List ByteArray} {b : Bool} (h : e = .returned (.tuple #[.agg #[.int .i64 c, v], .bool b])) (h1 : OwnX 9 w.heap.size w' v l) (h2 : Hid (ShR s c l b)) (h3 : Below w.heap.size w w') : ShE s w e w' := ⟨c, v, l, b, h, h1, h2, h3⟩
theorem OwnX.nil (te : TypeId) (B : Nat) (w : World) : OwnX te B w (.slice none 0 0) [] := .inl ⟨rfl, .inl ⟨rfl, rfl⟩⟩
set_option maxRecDepth 10000 in
set_option maxHeartbeats 400000 in
theorem iParseShift (s : ByteArray) (w : World) (hs : s.size ≤ 1048576) (hm : Ml w) (ht : Tb w) (hev : Ev w) :
    Calls Tryz.prog 31 #[.string s] w (ShE s w) := by
  have hb0 := below_alloc w (.cells #[.int .i64 0, .slice none 0 0] 41)
  have z0 : (w.alloc (.cells #[.int .i64 0, .slice none 0 0] 41)).heap.size = w.heap.size + 1 := by simp
  have hSp := Lib.hid (iStrSplit s 32 (w.alloc (.cells #[.int .i64 0, .slice none 0 0] 41)) (hm.keep hb0) hs)
  have hlen := splL_small s 32 hs
  have HP : ∀ x ∈ splL s 32, x.size ≤ 1048576 := fun x hx => Nat.le_trans (part_size hx) hs
  obtain ⟨p, l, hL⟩ := splL_cons s 32
  rw [hL] at hSp HP hlen
  have hps := HP p (List.mem_cons_self ..)
  have HZ : Hid (∀ x ∈ l, x.size ≤ 1048576) := Lib.hid fun x hx => HP x (List.mem_cons_of_mem _ hx)
  have HB : Hid (∀ n, Rd 0 999999 p n false → ShR s 0 [] false) := Lib.hid fun n h => shR_bad hL (by omega) (by omega) h
  have HY : Hid (∀ n, Rd 0 999999 p n true → isShift n l = true → ShR s n l true) := Lib.hid fun n h => shR_yes hL h
  have HN : Hid (∀ n, Rd 0 999999 p n true → isShift n l = false → ShR s 0 [] false) := Lib.hid fun n h => shR_no hL (by omega) (by omega) h
  rw [List.length_cons] at hlen
  clear hL HP
  go_enter Tryz.func31, Tryz.ntmps31
  go_wp2_with fail
  refine hSp.out.mono ?_
  rintro e w1 ⟨v1, rfl, (ho1 : OwnS _ _ _ _ _), hb1⟩
  obtain ⟨g, cap, rfl, c1, hX, hlc, hcm⟩ := own_tail ho1
  have b1 : Below w.heap.size w w1 := hb0.trans (hb1.mono (by omega))
  have d1 : w1.cell? ⟨w.heap.size, 0, none⟩ = some (.int .i64 0) := cell_keep hb1 (by simp)
  have d2 : w1.cell? ⟨w.heap.size, 1, none⟩ = some (.slice none 0 0) := cell_keep hb1 (by simp)
  have hXs := hX.strs
  rw [z0] at hX
  clear hSp ho1
  go_wp2_with fail
  refine (iParseNumber p _ hps (ht.keep b1) (hev.keep b1)).mono ?_
  rintro e w2 ⟨k, ok, rfl, HR, hb2⟩
  have b2 : Below w.heap.size w w2 := b1.trans (hb2.mono b1.size)
  have f1 : w2.frozen? ⟨w.heap.size, 0, none⟩ = false := by
    rw [hb2.frozen (p := ⟨w.heap.size, 0, none⟩) (show w.heap.size < w1.heap.size by have := hb1.size; omega), hb1.frozen (p := ⟨w.heap.size, 0, none⟩) (show w.heap.size < _ by omega)]; simp
  have f2 : w2.frozen? ⟨w.heap.size, 1, none⟩ = false := by
    rw [hb2.frozen (p := ⟨w.heap.size, 1, none⟩) (show w.heap.size < w1.heap.size by have := hb1.size; omega), hb1.frozen (p := ⟨w.heap.size, 1, none⟩) (show w.heap.size < _ by omega)]; simp
  have z1 : w.heap.size < w2.heap.size := by have := hb1.size; have := hb2.size; omega
  have q1 := cell_keep hb2 d1
  have q2 := cell_keep hb2 d2
  replace hX := hX.keep hb2
  replace hXs := hXs.keep hb2
  clear d1 d2 hb1 hb0 b1 hb2 c1
  obtain ⟨n, hn⟩ : ∃ n, l.length = n := ⟨_, rfl⟩
  rw [hn] at hlen hlc hX hXs ⊢
  have HLN := Lib.hid hn; clear hn
  by_cases hc0 : cap = 0
  · subst hc0
    rw [if_pos rfl] at hX hXs
    obtain rfl : n = 0 := by omega
    cases ok with
    | false =>
      have HF := Lib.hid (HB.out k HR.out)
      clear HB HY HN HZ hX hXs
      go_wp2
      refine bodyPost_ret (v := .tuple #[.agg #[.int .i64 0, .slice none 0 0], .bool false]) (by simp [results, Tryz.results31, go_sem, z1, q1, q2]) rfl ?_
      exact shE rfl (OwnX.nil _ _ _) HF (((b2.setCell (p := ⟨w.heap.size, 0, none⟩) (Nat.le_refl _) _).setCell (p := ⟨w.heap.size, 1, none⟩) (Nat.le_refl _) _).alloc (by simp; omega) _)
    | true =>
      have hx : ∀ o, Below w2.heap.size w2 (w2.alloc o) := fun o => below_alloc w2 o
      cases hi : isShift k l
      · have HF := Lib.hid (HN.out k HR.out hi)
        have HI := Lib.hid hi; clear hi
        go_wp2_with fail
        refine (iIsShift k _ l _ (hXs.keep (hx _)) HZ.out).mono ?_
        rintro e w3 ⟨rfl, hb3⟩
        have z3 : w2.heap.size + 1 ≤ w3.heap.size := by have := hb3.size; simp only [World.size_alloc] at this; omega
        have b3 : Below w.heap.size w w3 := (b2.trans ((hx _).mono b2.size)).trans (hb3.mono (Nat.le_trans b2.size (hx _).size))
        have r0 := cell_keep hb3 (cell_keep (hx (.cells #[.int .i64 k, (.slice (some ⟨g, 0, none⟩) 0 0)] 41)) q1)
        have r1 := cell_keep hb3 (cell_keep (hx (.cells #[.int .i64 k, (.slice (some ⟨g, 0, none⟩) 0 0)] 41)) q2)
        have r2 : w3.cell? ⟨w2.heap.size, 0, none⟩ = some (.int .i64 k) := cell_keep hb3 (by simp)
        have r3 : w3.cell? ⟨w2.heap.size, 1, none⟩ = some (.slice (some ⟨g, 0, none⟩) 0 0) := cell_keep hb3 (by simp)
        have g0 : w3.frozen? ⟨w.heap.size, 0, none⟩ = false := by rw [hb3.frozen (p := ⟨w.heap.size, 0, none⟩) (show w.heap.size < _ by simp; omega), (hx _).frozen (p := ⟨w.heap.size, 0, none⟩) z1]; exact f1
        have g1 : w3.frozen? ⟨w.heap.size, 1, none⟩ = false := by rw [hb3.frozen (p := ⟨w.heap.size, 1, none⟩) (show w.heap.size < _ by simp; omega), (hx _).frozen (p := ⟨w.heap.size, 1, none⟩) z1]; exact f2
        replace hX := (hX.keep (hx (.cells #[.int .i64 k, (.slice (some ⟨g, 0, none⟩) 0 0)] 41))).keep hb3
        have z4 : w.heap.size < w3.heap.size := by omega
        have z5 : ¬ w2.heap.size = w.heap.size := by omega
        clear q1 q2 f1 f2 hb3 hXs
        rw [HI.out]
        clear hX
        go_wp2
        refine bodyPost_ret (v := .tuple #[.agg #[.int .i64 0, .slice none 0 0], .bool false]) (by simp [results, Tryz.results31, go_sem, r0, r1]) rfl ?_
        exact shE rfl (OwnX.nil _ _ _) HF ((b3.setCell (p := ⟨w.heap.size, 0, none⟩) (Nat.le_refl _) _).setCell (p := ⟨w.heap.size, 1, none⟩) (Nat.le_refl _) _)
      · have HF := Lib.hid (HY.out k HR.out hi)
        have HI := Lib.hid hi; clear hi
        go_wp2_with fail
        refine (iIsShift k _ l _ (hXs.keep (hx _)) HZ.out).mono ?_
        rintro e w3 ⟨rfl, hb3⟩
        have z3 : w2.heap.size + 1 ≤ w3.heap.size := by have := hb3.size; simp only [World.size_alloc] at this; omega
        have b3 : Below w.heap.size w w3 := (b2.trans ((hx _).mono b2.size)).trans (hb3.mono (Nat.le_trans b2.size (hx _).size))
        have r0 := cell_keep hb3 (cell_keep (hx (.cells #[.int .i64 k, (.slice (some ⟨g, 0, none⟩) 0 0)] 41)) q1)
        have r1 := cell_keep hb3 (cell_keep (hx (.cells #[.int .i64 k, (.slice (some ⟨g, 0, none⟩) 0 0)] 41)) q2)
        have r2 : w3.cell? ⟨w2.heap.size, 0, none⟩ = some (.int .i64 k) := cell_keep hb3 (by simp)
        have r3 : w3.cell? ⟨w2.heap.size, 1, none⟩ = some (.slice (some ⟨g, 0, none⟩) 0 0) := cell_keep hb3 (by simp)
        have g0 : w3.frozen? ⟨w.heap.size, 0, none⟩ = false := by rw [hb3.frozen (p := ⟨w.heap.size, 0, none⟩) (show w.heap.size < _ by simp; omega), (hx _).frozen (p := ⟨w.heap.size, 0, none⟩) z1]; exact f1
        have g1 : w3.frozen? ⟨w.heap.size, 1, none⟩ = false := by rw [hb3.frozen (p := ⟨w.heap.size, 1, none⟩) (show w.heap.size < _ by simp; omega), (hx _).frozen (p := ⟨w.heap.size, 1, none⟩) z1]; exact f2
        replace hX := (hX.keep (hx (.cells #[.int .i64 k, (.slice (some ⟨g, 0, none⟩) 0 0)] 41))).keep hb3
        have z4 : w.heap.size < w3.heap.size := by omega
        have z5 : ¬ w2.heap.size = w.heap.size := by omega
        clear q1 q2 f1 f2 hb3 hXs
        rw [HI.out]
        go_wp2
        refine bodyPost_ret (v := .tuple #[.agg #[.int .i64 k, (.slice (some ⟨g, 0, none⟩) 0 0)], .bool true]) (by simp [results, Tryz.results31, go_sem, r0, r1]) rfl ?_
        exact shE rfl (((hX.setBelow (a := ⟨w.heap.size, 0, none⟩) (Nat.lt_succ_self _) _).setBelow (a := ⟨w.heap.size, 1, none⟩) (Nat.lt_succ_self _) _).mono (Nat.le_succ _)) HF ((b3.setCell (p := ⟨w.heap.size, 0, none⟩) (Nat.le_refl _) _).setCell (p := ⟨w.heap.size, 1, none⟩) (Nat.le_refl _) _)
  · rw [if_neg hc0] at hX hXs
    cases ok with
    | false =>
      have HF := Lib.hid (HB.out k HR.out)
      clear HB HY HN HZ hX hXs
      go_wp2
      refine bodyPost_ret (v := .tuple #[.agg #[.int .i64 0, .slice none 0 0], .bool false]) (by simp [results, Tryz.results31, go_sem, z1, q1, q2]) rfl ?_
      exact shE rfl (OwnX.nil _ _ _) HF (((b2.setCell (p := ⟨w.heap.size, 0, none⟩) (Nat.le_refl _) _).setCell (p := ⟨w.heap.size, 1, none⟩) (Nat.le_refl _) _).alloc (by simp; omega) _)
    | true =>
      have hx : ∀ o, Below w2.heap.size w2 (w2.alloc o) := fun o => below_alloc w2 o
      cases hi : isShift k l
      · have HF := Lib.hid (HN.out k HR.out hi)
        have HI := Lib.hid hi; clear hi
        go_wp2_with fail
        refine (iIsShift k _ l _ (hXs.keep (hx _)) HZ.out).mono ?_
        rintro e w3 ⟨rfl, hb3⟩
        have z3 : w2.heap.size + 1 ≤ w3.heap.size := by have := hb3.size; simp only [World.size_alloc] at this; omega
        have b3 : Below w.heap.size w w3 := (b2.trans ((hx _).mono b2.size)).trans (hb3.mono (Nat.le_trans b2.size (hx _).size))
        have r0 := cell_keep hb3 (cell_keep (hx (.cells #[.int .i64 k, (.slice (some ⟨g, 1, none⟩) n cap)] 41)) q1)
        have r1 := cell_keep hb3 (cell_keep (hx (.cells #[.int .i64 k, (.slice (some ⟨g, 1, none⟩) n cap)] 41)) q2)
        have r2 : w3.cell? ⟨w2.heap.size, 0, none⟩ = some (.int .i64 k) := cell_keep hb3 (by simp)
        have r3 : w3.cell? ⟨w2.heap.size, 1, none⟩ = some (.slice (some ⟨g, 1, none⟩) n cap) := cell_keep hb3 (by simp)
        have g0 : w3.frozen? ⟨w.heap.size, 0, none⟩ = false := by rw [hb3.frozen (p := ⟨w.heap.size, 0, none⟩) (show w.heap.size < _ by simp; omega), (hx _).frozen (p := ⟨w.heap.size, 0, none⟩) z1]; exact f1
        have g1 : w3.frozen? ⟨w.heap.size, 1, none⟩ = false := by rw [hb3.frozen (p := ⟨w.heap.size, 1, none⟩) (show w.heap.size < _ by simp; omega), (hx _).frozen (p := ⟨w.heap.size, 1, none⟩) z1]; exact f2
        replace hX := (hX.keep (hx (.cells #[.int .i64 k, (.slice (some ⟨g, 1, none⟩) n cap)] 41))).keep hb3
        have z4 : w.heap.size < w3.heap.size := by omega
        have z5 : ¬ w2.heap.size = w.heap.size := by omega
        clear q1 q2 f1 f2 hb3 hXs
        rw [HI.out]
        clear hX
        go_wp2
        refine bodyPost_ret (v := .tuple #[.agg #[.int .i64 0, .slice none 0 0], .bool false]) (by simp [results, Tryz.results31, go_sem, r0, r1]) rfl ?_
        exact shE rfl (OwnX.nil _ _ _) HF ((b3.setCell (p := ⟨w.heap.size, 0, none⟩) (Nat.le_refl _) _).setCell (p := ⟨w.heap.size, 1, none⟩) (Nat.le_refl _) _)
      · have HF := Lib.hid (HY.out k HR.out hi)
        have HI := Lib.hid hi; clear hi
        go_wp2_with fail
        refine (iIsShift k _ l _ (hXs.keep (hx _)) HZ.out).mono ?_
        rintro e w3 ⟨rfl, hb3⟩
        have z3 : w2.heap.size + 1 ≤ w3.heap.size := by have := hb3.size; simp only [World.size_alloc] at this; omega
        have b3 : Below w.heap.size w w3 := (b2.trans ((hx _).mono b2.size)).trans (hb3.mono (Nat.le_trans b2.size (hx _).size))
        have r0 := cell_keep hb3 (cell_keep (hx (.cells #[.int .i64 k, (.slice (some ⟨g, 1, none⟩) n cap)] 41)) q1)
        have r1 := cell_keep hb3 (cell_keep (hx (.cells #[.int .i64 k, (.slice (some ⟨g, 1, none⟩) n cap)] 41)) q2)
        have r2 : w3.cell? ⟨w2.heap.size, 0, none⟩ = some (.int .i64 k) := cell_keep hb3 (by simp)
        have r3 : w3.cell? ⟨w2.heap.size, 1, none⟩ = some (.slice (some ⟨g, 1, none⟩) n cap) := cell_keep hb3 (by simp)
        have g0 : w3.frozen? ⟨w.heap.size, 0, none⟩ = false := by rw [hb3.frozen (p := ⟨w.heap.size, 0, none⟩) (show w.heap.size < _ by simp; omega), (hx _).frozen (p := ⟨w.heap.size, 0, none⟩) z1]; exact f1
        have g1 : w3.frozen? ⟨w.heap.size, 1, none⟩ = false := by rw [hb3.frozen (p := ⟨w.heap.size, 1, none⟩) (show w.heap.size < _ by simp; omega), (hx _).frozen (p := ⟨w.heap.size, 1, none⟩) z1]; exact f2
        replace hX := (hX.keep (hx (.cells #[.int .i64 k, (.slice (some ⟨g, 1, none⟩) n cap)] 41))).keep hb3
        have z4 : w.heap.size < w3.heap.size := by omega
        have z5 : ¬ w2.heap.size = w.heap.size := by omega
        clear q1 q2 f1 f2 hb3 hXs
        rw [HI.out]
        go_wp2
        refine bodyPost_ret (v := .tuple #[.agg #[.int .i64 k, (.slice (some ⟨g, 1, none⟩) n cap)], .bool true]) (by simp [results, Tryz.results31, go_sem, r0, r1]) rfl ?_
        exact shE rfl (((hX.setBelow (a := ⟨w.heap.size, 0, none⟩) (Nat.lt_succ_self _) _).setBelow (a := ⟨w.heap.size, 1, none⟩) (Nat.lt_succ_self _) _).mono (Nat.le_succ _)) HF ((b3.setCell (p := ⟨w.heap.size, 0, none⟩) (Nat.le_refl _) _).setCell (p := ⟨w.heap.size, 1, none⟩) (Nat.le_refl _) _)
set_option maxRecDepth 10000 in
set_option maxHeartbeats 400000 in
theorem sParseShift (s : ByteArray) (w : World) (hs : s.size ≤ 1048576) :
    Calls Tryz.prog 32 #[.string s] w (ShE s w) := by
  have hb0 := below_alloc w (.cells #[.int .i64 0, .slice none 0 0] 41)
  have z0 : (w.alloc (.cells #[.int .i64 0, .slice none 0 0] 41)).heap.size = w.heap.size + 1 := by simp
  have hSp : Hid (Calls Tryz.prog 65 #[.string s, .int .u8 32] (w.alloc (.cells #[.int .i64 0, .slice none 0 0] 41)) _) := Lib.hid (sSplitByte s 32 (w.alloc (.cells #[.int .i64 0, .slice none 0 0] 41)) hs)
  have hlen := splL_small s 32 hs
  have HP : ∀ x ∈ splL s 32, x.size ≤ 1048576 := fun x hx => Nat.le_trans (part_size hx) hs
  obtain ⟨p, l, hL⟩ := splL_cons s 32
  rw [hL] at hSp HP hlen
  have hps := HP p (List.mem_cons_self ..)
  have HZ : Hid (∀ x ∈ l, x.size ≤ 1048576) := Lib.hid fun x hx => HP x (List.mem_cons_of_mem _ hx)
  have HB : Hid (∀ n, Rd (-999999999999) 999999999999 p n false → ShR s 0 [] false) := Lib.hid fun n h => shR_bad hL (by omega) (by omega) h
  have HY : Hid (∀ n, Rd (-999999999999) 999999999999 p n true → isShift n l = true → ShR s n l true) := Lib.hid fun n h => shR_yes hL h
  have HN : Hid (∀ n, Rd (-999999999999) 999999999999 p n true → isShift n l = false → ShR s 0 [] false) := Lib.hid fun n h => shR_no hL (by omega) (by omega) h
  rw [List.length_cons] at hlen
  clear hL HP
  go_enter Tryz.func32, Tryz.ntmps32
  go_wp2_with fail
  refine hSp.out.mono ?_
  rintro e w1 ⟨v1, rfl, (ho1 : OwnS _ _ _ _ _), hb1⟩
  obtain ⟨g, cap, rfl, c1, hX, hlc, hcm⟩ := own_tail ho1
  have b1 : Below w.heap.size w w1 := hb0.trans (hb1.mono (by omega))
  have d1 : w1.cell? ⟨w.heap.size, 0, none⟩ = some (.int .i64 0) := cell_keep hb1 (by simp)
  have d2 : w1.cell? ⟨w.heap.size, 1, none⟩ = some (.slice none 0 0) := cell_keep hb1 (by simp)
  have hXs := hX.strs
  clear hSp ho1 hX
  go_wp2_with fail
  refine (sParseInt p _ hps).mono ?_
  rintro e w2 ⟨k, ok, rfl, HR, hb2⟩
  have b2 : Below w.heap.size w w2 := b1.trans (hb2.mono b1.size)
  have f1 : w2.frozen? ⟨w.heap.size, 0, none⟩ = false := by
    rw [hb2.frozen (p := ⟨w.heap.size, 0, none⟩) (show w.heap.size < w1.heap.size by have := hb1.size; omega), hb1.frozen (p := ⟨w.heap.size, 0, none⟩) (show w.heap.size < _ by omega)]; simp
  have f2 : w2.frozen? ⟨w.heap.size, 1, none⟩ = false := by
    rw [hb2.frozen (p := ⟨w.heap.size, 1, none⟩) (show w.heap.size < w1.heap.size by have := hb1.size; omega), hb1.frozen (p := ⟨w.heap.size, 1, none⟩) (show w.heap.size < _ by omega)]; simp
  have z1 : w.heap.size < w2.heap.size := by have := hb1.size; have := hb2.size; omega
  have q1 := cell_keep hb2 d1
  have q2 := cell_keep hb2 d2
  replace hXs := hXs.keep hb2
  clear d1 d2 hb1 hb0 b1 hb2 c1
  obtain ⟨n, hn⟩ : ∃ n, l.length = n := ⟨_, rfl⟩
  rw [hn] at hlen hlc hXs ⊢
  have HLN := Lib.hid hn; clear hn
  have hE := Own.empty 9 w2
  have hEb := below_alloc w2 (.cells #[] 9)
  by_cases hc0 : cap = 0
  · subst hc0
    rw [if_pos rfl] at hXs
    obtain rfl : n = 0 := by omega
    have hXe := hXs.keep hEb
    go_wp2_with (at_builtin; refine appL 39 9 16 (.string ByteArray.empty) Tryz.underlying39 Tryz.infoStr rfl hE hXe (strs_one l) ?k1 ?k2 (by simp) rfl _ _ rfl rfl rfl ?_)
    case k1 => rw [strs_length, HLN.out]; unfold maxLen; show 0 + 0 ≤ _; omega
    case k2 => rw [strs_length, HLN.out]; show (0 + 0) * 16 ≤ _; omega
    intro va wa hA hgA
    obtain ⟨aa, ca, rfl⟩ := hA.form (show (strs l).length = 0 by rw [strs_length, HLN.out])
    have hba : Below w2.heap.size w2 wa := hEb.trans (hE.below hgA (Nat.le_refl _) hEb.size)
    have ba := b2.trans (hba.mono b2.size)
    have za : w.heap.size < wa.heap.size := Nat.lt_of_lt_of_le z1 hba.size
    replace q1 := cell_keep hba q1
    replace q2 := cell_keep hba q2
    replace f1 : wa.frozen? ⟨w.heap.size, 0, none⟩ = false := by rw [hba.frozen (p := ⟨w.heap.size, 0, none⟩) z1]; exact f1
    replace f2 : wa.frozen? ⟨w.heap.size, 1, none⟩ = false := by rw [hba.frozen (p := ⟨w.heap.size, 1, none⟩) z1]; exact f2
    have zA := hba.size
    clear hE hEb hXs hXe hgA hba b2
    cases ok with
    | false =>
      have HF := Lib.hid (HB.out k HR.out)
      clear HB HY HN HZ hA
      go_wp2
      refine bodyPost_ret (v := .tuple #[.agg #[.int .i64 0, .slice none 0 0], .bool false]) (by simp [results, Tryz.results32, go_sem, za, q1, q2]) rfl ?_
      exact shE rfl (OwnX.nil _ _ _) HF (((ba.setCell (p := ⟨w.heap.size, 0, none⟩) (Nat.le_refl _) _).setCell (p := ⟨w.heap.size, 1, none⟩) (Nat.le_refl _) _).alloc (by simp; omega) _)
    | true =>
      have hx : ∀ o, Below wa.heap.size wa (wa.alloc o) := fun o => below_alloc wa o
      have hXs := hA.row
      cases hi : isShift k l
      · have HF := Lib.hid (HN.out k HR.out hi)
        have HI := Lib.hid hi; clear hi
        go_wp2_with fail
        refine (sIsShift k _ l _ (Strs.keep hXs (hx _)) HZ.out).mono ?_
        rintro e w3 ⟨rfl, hb3⟩
        have z3 : wa.heap.size + 1 ≤ w3.heap.size := by have := hb3.size; simp only [World.size_alloc] at this; omega
        have b3 : Below w.heap.size w w3 := (ba.trans ((hx _).mono ba.size)).trans (hb3.mono (Nat.le_trans ba.size (hx _).size))
        have r0 := cell_keep hb3 (cell_keep (hx (.cells #[.int .i64 k, .slice aa 0 ca] 41)) q1)
        have r1 := cell_keep hb3 (cell_keep (hx (.cells #[.int .i64 k, .slice aa 0 ca] 41)) q2)
        have r2 : w3.cell? ⟨wa.heap.size, 0, none⟩ = some (.int .i64 k) := cell_keep hb3 (by simp)
        have r3 : w3.cell? ⟨wa.heap.size, 1, none⟩ = some (.slice aa 0 ca) := cell_keep hb3 (by simp)
        have g0 : w3.frozen? ⟨w.heap.size, 0, none⟩ = false := by rw [hb3.frozen (p := ⟨w.heap.size, 0, none⟩) (show w.heap.size < _ by simp; omega), (hx _).frozen (p := ⟨w.heap.size, 0, none⟩) za]; exact f1
        have g1 : w3.frozen? ⟨w.heap.size, 1, none⟩ = false := by rw [hb3.frozen (p := ⟨w.heap.size, 1, none⟩) (show w.heap.size < _ by simp; omega), (hx _).frozen (p := ⟨w.heap.size, 1, none⟩) za]; exact f2
        replace hA := (hA.keep (hx (.cells #[.int .i64 k, .slice aa 0 ca] 41))).keep hb3
        have z5 : ¬ wa.heap.size = w.heap.size := by omega
        clear q1 q2 f1 f2 hb3 hXs
        rw [HI.out]
        clear hA
        go_wp2
        refine bodyPost_ret (v := .tuple #[.agg #[.int .i64 0, .slice none 0 0], .bool false]) (by simp [results, Tryz.results32, go_sem, r0, r1]) rfl ?_
        exact shE rfl (OwnX.nil _ _ _) HF ((b3.setCell (p := ⟨w.heap.size, 0, none⟩) (Nat.le_refl _) _).setCell (p := ⟨w.heap.size, 1, none⟩) (Nat.le_refl _) _)
      · have HF := Lib.hid (HY.out k HR.out hi)
        have HI := Lib.hid hi; clear hi
        go_wp2_with fail
        refine (sIsShift k _ l _ (Strs.keep hXs (hx _)) HZ.out).mono ?_
        rintro e w3 ⟨rfl, hb3⟩
        have z3 : wa.heap.size + 1 ≤ w3.heap.size := by have := hb3.size; simp only [World.size_alloc] at this; omega
        have b3 : Below w.heap.size w w3 := (ba.trans ((hx _).mono ba.size)).trans (hb3.mono (Nat.le_trans ba.size (hx _).size))
        have r0 := cell_keep hb3 (cell_keep (hx (.cells #[.int .i64 k, .slice aa 0 ca] 41)) q1)
        have r1 := cell_keep hb3 (cell_keep (hx (.cells #[.int .i64 k, .slice aa 0 ca] 41)) q2)
        have r2 : w3.cell? ⟨wa.heap.size, 0, none⟩ = some (.int .i64 k) := cell_keep hb3 (by simp)
        have r3 : w3.cell? ⟨wa.heap.size, 1, none⟩ = some (.slice aa 0 ca) := cell_keep hb3 (by simp)
        have g0 : w3.frozen? ⟨w.heap.size, 0, none⟩ = false := by rw [hb3.frozen (p := ⟨w.heap.size, 0, none⟩) (show w.heap.size < _ by simp; omega), (hx _).frozen (p := ⟨w.heap.size, 0, none⟩) za]; exact f1
        have g1 : w3.frozen? ⟨w.heap.size, 1, none⟩ = false := by rw [hb3.frozen (p := ⟨w.heap.size, 1, none⟩) (show w.heap.size < _ by simp; omega), (hx _).frozen (p := ⟨w.heap.size, 1, none⟩) za]; exact f2
        replace hA := (hA.keep (hx (.cells #[.int .i64 k, .slice aa 0 ca] 41))).keep hb3
        have z5 : ¬ wa.heap.size = w.heap.size := by omega
        clear q1 q2 f1 f2 hb3 hXs
        rw [HI.out]
        go_wp2
        refine bodyPost_ret (v := .tuple #[.agg #[.int .i64 k, .slice aa 0 ca], .bool true]) (by simp [results, Tryz.results32, go_sem, r0, r1]) rfl ?_
        exact shE rfl (.inl (((hA.setCell_below (a := ⟨w.heap.size, 0, none⟩) z1 _).setCell_below (a := ⟨w.heap.size, 1, none⟩) z1 _).mono (Nat.le_of_lt z1))) HF ((b3.setCell (p := ⟨w.heap.size, 0, none⟩) (Nat.le_refl _) _).setCell (p := ⟨w.heap.size, 1, none⟩) (Nat.le_refl _) _)
  · rw [if_neg hc0] at hXs
    have hXe := hXs.keep hEb
    go_wp2_with (at_builtin; refine appL 39 9 16 (.string ByteArray.empty) Tryz.underlying39 Tryz.infoStr rfl hE hXe (strs_one l) ?k1 ?k2 (by simp) rfl _ _ rfl rfl rfl ?_)
    case k1 => rw [strs_length, HLN.out]; unfold maxLen; show 0 + n ≤ _; omega
    case k2 => rw [strs_length, HLN.out]; show (0 + n) * 16 ≤ _; omega
    intro va wa hA hgA
    obtain ⟨aa, ca, rfl⟩ := hA.form (show (strs l).length = n by rw [strs_length, HLN.out])
    have hba : Below w2.heap.size w2 wa := hEb.trans (hE.below hgA (Nat.le_refl _) hEb.size)
    have ba := b2.trans (hba.mono b2.size)
    have za : w.heap.size < wa.heap.size := Nat.lt_of_lt_of_le z1 hba.size
    replace q1 := cell_keep hba q1
    replace q2 := cell_keep hba q2
    replace f1 : wa.frozen? ⟨w.heap.size, 0, none⟩ = false := by rw [hba.frozen (p := ⟨w.heap.size, 0, none⟩) z1]; exact f1
    replace f2 : wa.frozen? ⟨w.heap.size, 1, none⟩ = false := by rw [hba.frozen (p := ⟨w.heap.size, 1, none⟩) z1]; exact f2
    have zA := hba.size
    clear hE hEb hXs hXe hgA hba b2
    cases ok with
    | false =>
      have HF := Lib.hid (HB.out k HR.out)
      clear HB HY HN HZ hA
      go_wp2
      refine bodyPost_ret (v := .tuple #[.agg #[.int .i64 0, .slice none 0 0], .bool false]) (by simp [results, Tryz.results32, go_sem, za, q1, q2]) rfl ?_
      exact shE rfl (OwnX.nil _ _ _) HF (((ba.setCell (p := ⟨w.heap.size, 0, none⟩) (Nat.le_refl _) _).setCell (p := ⟨w.heap.size, 1, none⟩) (Nat.le_refl _) _).alloc (by simp; omega) _)
    | true =>
      have hx : ∀ o, Below wa.heap.size wa (wa.alloc o) := fun o => below_alloc wa o
      have hXs := hA.row
      cases hi : isShift k l
      · have HF := Lib.hid (HN.out k HR.out hi)
        have HI := Lib.hid hi; clear hi
        go_wp2_with fail
        refine (sIsShift k _ l _ (Strs.keep hXs (hx _)) HZ.out).mono ?_
        rintro e w3 ⟨rfl, hb3⟩
        have z3 : wa.heap.size + 1 ≤ w3.heap.size := by have := hb3.size; simp only [World.size_alloc] at this; omega
        have b3 : Below w.heap.size w w3 := (ba.trans ((hx _).mono ba.size)).trans (hb3.mono (Nat.le_trans ba.size (hx _).size))
        have r0 := cell_keep hb3 (cell_keep (hx (.cells #[.int .i64 k, .slice aa n ca] 41)) q1)
        have r1 := cell_keep hb3 (cell_keep (hx (.cells #[.int .i64 k, .slice aa n ca] 41)) q2)
        have r2 : w3.cell? ⟨wa.heap.size, 0, none⟩ = some (.int .i64 k) := cell_keep hb3 (by simp)
        have r3 : w3.cell? ⟨wa.heap.size, 1, none⟩ = some (.slice aa n ca) := cell_keep hb3 (by simp)
        have g0 : w3.frozen? ⟨w.heap.size, 0, none⟩ = false := by rw [hb3.frozen (p := ⟨w.heap.size, 0, none⟩) (show w.heap.size < _ by simp; omega), (hx _).frozen (p := ⟨w.heap.size, 0, none⟩) za]; exact f1
        have g1 : w3.frozen? ⟨w.heap.size, 1, none⟩ = false := by rw [hb3.frozen (p := ⟨w.heap.size, 1, none⟩) (show w.heap.size < _ by simp; omega), (hx _).frozen (p := ⟨w.heap.size, 1, none⟩) za]; exact f2
        replace hA := (hA.keep (hx (.cells #[.int .i64 k, .slice aa n ca] 41))).keep hb3
        have z5 : ¬ wa.heap.size = w.heap.size := by omega
        clear q1 q2 f1 f2 hb3 hXs
        rw [HI.out]
        clear hA
        go_wp2
        refine bodyPost_ret (v := .tuple #[.agg #[.int .i64 0, .slice none 0 0], .bool false]) (by simp [results, Tryz.results32, go_sem, r0, r1]) rfl ?_
        exact shE rfl (OwnX.nil _ _ _) HF ((b3.setCell (p := ⟨w.heap.size, 0, none⟩) (Nat.le_refl _) _).setCell (p := ⟨w.heap.size, 1, none⟩) (Nat.le_refl _) _)
      · have HF := Lib.hid (HY.out k HR.out hi)
        have HI := Lib.hid hi; clear hi
        go_wp2_with fail
        refine (sIsShift k _ l _ (Strs.keep hXs (hx _)) HZ.out).mono ?_
        rintro e w3 ⟨rfl, hb3⟩
        have z3 : wa.heap.size + 1 ≤ w3.heap.size := by have := hb3.size; simp only [World.size_alloc] at this; omega
        have b3 : Below w.heap.size w w3 := (ba.trans ((hx _).mono ba.size)).trans (hb3.mono (Nat.le_trans ba.size (hx _).size))
        have r0 := cell_keep hb3 (cell_keep (hx (.cells #[.int .i64 k, .slice aa n ca] 41)) q1)
        have r1 := cell_keep hb3 (cell_keep (hx (.cells #[.int .i64 k, .slice aa n ca] 41)) q2)
        have r2 : w3.cell? ⟨wa.heap.size, 0, none⟩ = some (.int .i64 k) := cell_keep hb3 (by simp)
        have r3 : w3.cell? ⟨wa.heap.size, 1, none⟩ = some (.slice aa n ca) := cell_keep hb3 (by simp)
        have g0 : w3.frozen? ⟨w.heap.size, 0, none⟩ = false := by rw [hb3.frozen (p := ⟨w.heap.size, 0, none⟩) (show w.heap.size < _ by simp; omega), (hx _).frozen (p := ⟨w.heap.size, 0, none⟩) za]; exact f1
        have g1 : w3.frozen? ⟨w.heap.size, 1, none⟩ = false := by rw [hb3.frozen (p := ⟨w.heap.size, 1, none⟩) (show w.heap.size < _ by simp; omega), (hx _).frozen (p := ⟨w.heap.size, 1, none⟩) za]; exact f2
        replace hA := (hA.keep (hx (.cells #[.int .i64 k, .slice aa n ca] 41))).keep hb3
        have z5 : ¬ wa.heap.size = w.heap.size := by omega
        clear q1 q2 f1 f2 hb3 hXs
        rw [HI.out]
        go_wp2
        refine bodyPost_ret (v := .tuple #[.agg #[.int .i64 k, .slice aa n ca], .bool true]) (by simp [results, Tryz.results32, go_sem, r0, r1]) rfl ?_
        exact shE rfl (.inl (((hA.setCell_below (a := ⟨w.heap.size, 0, none⟩) z1 _).setCell_below (a := ⟨w.heap.size, 1, none⟩) z1 _).mono (Nat.le_of_lt z1))) HF ((b3.setCell (p := ⟨w.heap.size, 0, none⟩) (Nat.le_refl _) _).setCell (p := ⟨w.heap.size, 1, none⟩) (Nat.le_refl _) _)
end Go.Proofs.YtkohadoicebojaaGreatDoor

namespace Go.Proofs.YtkohadoicebojaaGreatDoor
open Go.RowKit Go.Deep
def ShO (s : ByteArray) (w : World) (e : Ending) (w' : World) : Prop := ∃ c v l b, e = .returned (.tuple #[.agg #[.int .i64 c, v], .bool b]) ∧ Own 9 w.heap.size w' v (strs l) ∧ Hid (ShR s c l b) ∧ Below w.heap.size w w'
theorem shO {s : ByteArray} {w w' : World} {e : Ending} {c : Int} {v : Value} {l : List ByteArray} {b : Bool} (h : e = .returned (.tuple #[.agg #[.int .i64 c, v], .bool b])) (h1 : Own 9 w.heap.size w' v (strs l)) (h2 : Hid (ShR s c l b)) (h3 : Below w.heap.size w w') : ShO s w e w' := ⟨c, v, l, b, h, h1, h2, h3⟩
set_option maxRecDepth 10000 in
set_option maxHeartbeats 400000 in
theorem sParseShiftO (s : ByteArray) (w : World) (hs : s.size ≤ 1048576) :
    Calls Tryz.prog 32 #[.string s] w (ShO s w) := by
  have hb0 := below_alloc w (.cells #[.int .i64 0, .slice none 0 0] 41)
  have z0 : (w.alloc (.cells #[.int .i64 0, .slice none 0 0] 41)).heap.size = w.heap.size + 1 := by simp
  have hSp : Hid (Calls Tryz.prog 65 #[.string s, .int .u8 32] (w.alloc (.cells #[.int .i64 0, .slice none 0 0] 41)) _) := Lib.hid (sSplitByte s 32 (w.alloc (.cells #[.int .i64 0, .slice none 0 0] 41)) hs)
  have hlen := splL_small s 32 hs
  have HP : ∀ x ∈ splL s 32, x.size ≤ 1048576 := fun x hx => Nat.le_trans (part_size hx) hs
  obtain ⟨p, l, hL⟩ := splL_cons s 32
  rw [hL] at hSp HP hlen
  have hps := HP p (List.mem_cons_self ..)
  have HZ : Hid (∀ x ∈ l, x.size ≤ 1048576) := Lib.hid fun x hx => HP x (List.mem_cons_of_mem _ hx)
  have HB : Hid (∀ n, Rd (-999999999999) 999999999999 p n false → ShR s 0 [] false) := Lib.hid fun n h => shR_bad hL (by omega) (by omega) h
  have HY : Hid (∀ n, Rd (-999999999999) 999999999999 p n true → isShift n l = true → ShR s n l true) := Lib.hid fun n h => shR_yes hL h
  have HN : Hid (∀ n, Rd (-999999999999) 999999999999 p n true → isShift n l = false → ShR s 0 [] false) := Lib.hid fun n h => shR_no hL (by omega) (by omega) h
  rw [List.length_cons] at hlen
  clear hL HP
  go_enter Tryz.func32, Tryz.ntmps32
  go_wp2_with fail
  refine hSp.out.mono ?_
  rintro e w1 ⟨v1, rfl, (ho1 : OwnS _ _ _ _ _), hb1⟩
  obtain ⟨g, cap, rfl, c1, hX, hlc, hcm⟩ := own_tail ho1
  have b1 : Below w.heap.size w w1 := hb0.trans (hb1.mono (by omega))
  have d1 : w1.cell? ⟨w.heap.size, 0, none⟩ = some (.int .i64 0) := cell_keep hb1 (by simp)
  have d2 : w1.cell? ⟨w.heap.size, 1, none⟩ = some (.slice none 0 0) := cell_keep hb1 (by simp)
  have hXs := hX.strs
  clear hSp ho1 hX
  go_wp2_with fail
  refine (sParseInt p _ hps).mono ?_
  rintro e w2 ⟨k, ok, rfl, HR, hb2⟩
  have b2 : Below w.heap.size w w2 := b1.trans (hb2.mono b1.size)
  have f1 : w2.frozen? ⟨w.heap.size, 0, none⟩ = false := by
    rw [hb2.frozen (p := ⟨w.heap.size, 0, none⟩) (show w.heap.size < w1.heap.size by have := hb1.size; omega), hb1.frozen (p := ⟨w.heap.size, 0, none⟩) (show w.heap.size < _ by omega)]; simp
  have f2 : w2.frozen? ⟨w.heap.size, 1, none⟩ = false := by
    rw [hb2.frozen (p := ⟨w.heap.size, 1, none⟩) (show w.heap.size < w1.heap.size by have := hb1.size; omega), hb1.frozen (p := ⟨w.heap.size, 1, none⟩) (show w.heap.size < _ by omega)]; simp
  have z1 : w.heap.size < w2.heap.size := by have := hb1.size; have := hb2.size; omega
  have q1 := cell_keep hb2 d1
  have q2 := cell_keep hb2 d2
  replace hXs := hXs.keep hb2
  clear d1 d2 hb1 hb0 b1 hb2 c1
  obtain ⟨n, hn⟩ : ∃ n, l.length = n := ⟨_, rfl⟩
  rw [hn] at hlen hlc hXs ⊢
  have HLN := Lib.hid hn; clear hn
  have hE := Own.empty 9 w2
  have hEb := below_alloc w2 (.cells #[] 9)
  by_cases hc0 : cap = 0
  · subst hc0
    rw [if_pos rfl] at hXs
    obtain rfl : n = 0 := by omega
    have hXe := hXs.keep hEb
    go_wp2_with (at_builtin; refine appL 39 9 16 (.string ByteArray.empty) Tryz.underlying39 Tryz.infoStr rfl hE hXe (strs_one l) ?k1 ?k2 (by simp) rfl _ _ rfl rfl rfl ?_)
    case k1 => rw [strs_length, HLN.out]; unfold maxLen; show 0 + 0 ≤ _; omega
    case k2 => rw [strs_length, HLN.out]; show (0 + 0) * 16 ≤ _; omega
    intro va wa hA hgA
    obtain ⟨aa, ca, rfl⟩ := hA.form (show (strs l).length = 0 by rw [strs_length, HLN.out])
    have hba : Below w2.heap.size w2 wa := hEb.trans (hE.below hgA (Nat.le_refl _) hEb.size)
    have ba := b2.trans (hba.mono b2.size)
    have za : w.heap.size < wa.heap.size := Nat.lt_of_lt_of_le z1 hba.size
    replace q1 := cell_keep hba q1
    replace q2 := cell_keep hba q2
    replace f1 : wa.frozen? ⟨w.heap.size, 0, none⟩ = false := by rw [hba.frozen (p := ⟨w.heap.size, 0, none⟩) z1]; exact f1
    replace f2 : wa.frozen? ⟨w.heap.size, 1, none⟩ = false := by rw [hba.frozen (p := ⟨w.heap.size, 1, none⟩) z1]; exact f2
    have zA := hba.size
    clear hE hEb hXs hXe hgA hba b2
    cases ok with
    | false =>
      have HF := Lib.hid (HB.out k HR.out)
      clear HB HY HN HZ hA
      go_wp2
      refine bodyPost_ret (v := .tuple #[.agg #[.int .i64 0, .slice none 0 0], .bool false]) (by simp [results, Tryz.results32, go_sem, za, q1, q2]) rfl ?_
      exact shO rfl (Own.nil _ _ _) HF (((ba.setCell (p := ⟨w.heap.size, 0, none⟩) (Nat.le_refl _) _).setCell (p := ⟨w.heap.size, 1, none⟩) (Nat.le_refl _) _).alloc (by simp; omega) _)
    | true =>
      have hx : ∀ o, Below wa.heap.size wa (wa.alloc o) := fun o => below_alloc wa o
      have hXs := hA.row
      cases hi : isShift k l
      · have HF := Lib.hid (HN.out k HR.out hi)
        have HI := Lib.hid hi; clear hi
        go_wp2_with fail
        refine (sIsShift k _ l _ (Strs.keep hXs (hx _)) HZ.out).mono ?_
        rintro e w3 ⟨rfl, hb3⟩
        have z3 : wa.heap.size + 1 ≤ w3.heap.size := by have := hb3.size; simp only [World.size_alloc] at this; omega
        have b3 : Below w.heap.size w w3 := (ba.trans ((hx _).mono ba.size)).trans (hb3.mono (Nat.le_trans ba.size (hx _).size))
        have r0 := cell_keep hb3 (cell_keep (hx (.cells #[.int .i64 k, .slice aa 0 ca] 41)) q1)
        have r1 := cell_keep hb3 (cell_keep (hx (.cells #[.int .i64 k, .slice aa 0 ca] 41)) q2)
        have r2 : w3.cell? ⟨wa.heap.size, 0, none⟩ = some (.int .i64 k) := cell_keep hb3 (by simp)
        have r3 : w3.cell? ⟨wa.heap.size, 1, none⟩ = some (.slice aa 0 ca) := cell_keep hb3 (by simp)
        have g0 : w3.frozen? ⟨w.heap.size, 0, none⟩ = false := by rw [hb3.frozen (p := ⟨w.heap.size, 0, none⟩) (show w.heap.size < _ by simp; omega), (hx _).frozen (p := ⟨w.heap.size, 0, none⟩) za]; exact f1
        have g1 : w3.frozen? ⟨w.heap.size, 1, none⟩ = false := by rw [hb3.frozen (p := ⟨w.heap.size, 1, none⟩) (show w.heap.size < _ by simp; omega), (hx _).frozen (p := ⟨w.heap.size, 1, none⟩) za]; exact f2
        replace hA := (hA.keep (hx (.cells #[.int .i64 k, .slice aa 0 ca] 41))).keep hb3
        have z5 : ¬ wa.heap.size = w.heap.size := by omega
        clear q1 q2 f1 f2 hb3 hXs
        rw [HI.out]
        clear hA
        go_wp2
        refine bodyPost_ret (v := .tuple #[.agg #[.int .i64 0, .slice none 0 0], .bool false]) (by simp [results, Tryz.results32, go_sem, r0, r1]) rfl ?_
        exact shO rfl (Own.nil _ _ _) HF ((b3.setCell (p := ⟨w.heap.size, 0, none⟩) (Nat.le_refl _) _).setCell (p := ⟨w.heap.size, 1, none⟩) (Nat.le_refl _) _)
      · have HF := Lib.hid (HY.out k HR.out hi)
        have HI := Lib.hid hi; clear hi
        go_wp2_with fail
        refine (sIsShift k _ l _ (Strs.keep hXs (hx _)) HZ.out).mono ?_
        rintro e w3 ⟨rfl, hb3⟩
        have z3 : wa.heap.size + 1 ≤ w3.heap.size := by have := hb3.size; simp only [World.size_alloc] at this; omega
        have b3 : Below w.heap.size w w3 := (ba.trans ((hx _).mono ba.size)).trans (hb3.mono (Nat.le_trans ba.size (hx _).size))
        have r0 := cell_keep hb3 (cell_keep (hx (.cells #[.int .i64 k, .slice aa 0 ca] 41)) q1)
        have r1 := cell_keep hb3 (cell_keep (hx (.cells #[.int .i64 k, .slice aa 0 ca] 41)) q2)
        have r2 : w3.cell? ⟨wa.heap.size, 0, none⟩ = some (.int .i64 k) := cell_keep hb3 (by simp)
        have r3 : w3.cell? ⟨wa.heap.size, 1, none⟩ = some (.slice aa 0 ca) := cell_keep hb3 (by simp)
        have g0 : w3.frozen? ⟨w.heap.size, 0, none⟩ = false := by rw [hb3.frozen (p := ⟨w.heap.size, 0, none⟩) (show w.heap.size < _ by simp; omega), (hx _).frozen (p := ⟨w.heap.size, 0, none⟩) za]; exact f1
        have g1 : w3.frozen? ⟨w.heap.size, 1, none⟩ = false := by rw [hb3.frozen (p := ⟨w.heap.size, 1, none⟩) (show w.heap.size < _ by simp; omega), (hx _).frozen (p := ⟨w.heap.size, 1, none⟩) za]; exact f2
        replace hA := (hA.keep (hx (.cells #[.int .i64 k, .slice aa 0 ca] 41))).keep hb3
        have z5 : ¬ wa.heap.size = w.heap.size := by omega
        clear q1 q2 f1 f2 hb3 hXs
        rw [HI.out]
        go_wp2
        refine bodyPost_ret (v := .tuple #[.agg #[.int .i64 k, .slice aa 0 ca], .bool true]) (by simp [results, Tryz.results32, go_sem, r0, r1]) rfl ?_
        exact shO rfl ((((hA.setCell_below (a := ⟨w.heap.size, 0, none⟩) z1 _).setCell_below (a := ⟨w.heap.size, 1, none⟩) z1 _).mono (Nat.le_of_lt z1))) HF ((b3.setCell (p := ⟨w.heap.size, 0, none⟩) (Nat.le_refl _) _).setCell (p := ⟨w.heap.size, 1, none⟩) (Nat.le_refl _) _)
  · rw [if_neg hc0] at hXs
    have hXe := hXs.keep hEb
    go_wp2_with (at_builtin; refine appL 39 9 16 (.string ByteArray.empty) Tryz.underlying39 Tryz.infoStr rfl hE hXe (strs_one l) ?k1 ?k2 (by simp) rfl _ _ rfl rfl rfl ?_)
    case k1 => rw [strs_length, HLN.out]; unfold maxLen; show 0 + n ≤ _; omega
    case k2 => rw [strs_length, HLN.out]; show (0 + n) * 16 ≤ _; omega
    intro va wa hA hgA
    obtain ⟨aa, ca, rfl⟩ := hA.form (show (strs l).length = n by rw [strs_length, HLN.out])
    have hba : Below w2.heap.size w2 wa := hEb.trans (hE.below hgA (Nat.le_refl _) hEb.size)
    have ba := b2.trans (hba.mono b2.size)
    have za : w.heap.size < wa.heap.size := Nat.lt_of_lt_of_le z1 hba.size
    replace q1 := cell_keep hba q1
    replace q2 := cell_keep hba q2
    replace f1 : wa.frozen? ⟨w.heap.size, 0, none⟩ = false := by rw [hba.frozen (p := ⟨w.heap.size, 0, none⟩) z1]; exact f1
    replace f2 : wa.frozen? ⟨w.heap.size, 1, none⟩ = false := by rw [hba.frozen (p := ⟨w.heap.size, 1, none⟩) z1]; exact f2
    have zA := hba.size
    clear hE hEb hXs hXe hgA hba b2
    cases ok with
    | false =>
      have HF := Lib.hid (HB.out k HR.out)
      clear HB HY HN HZ hA
      go_wp2
      refine bodyPost_ret (v := .tuple #[.agg #[.int .i64 0, .slice none 0 0], .bool false]) (by simp [results, Tryz.results32, go_sem, za, q1, q2]) rfl ?_
      exact shO rfl (Own.nil _ _ _) HF (((ba.setCell (p := ⟨w.heap.size, 0, none⟩) (Nat.le_refl _) _).setCell (p := ⟨w.heap.size, 1, none⟩) (Nat.le_refl _) _).alloc (by simp; omega) _)
    | true =>
      have hx : ∀ o, Below wa.heap.size wa (wa.alloc o) := fun o => below_alloc wa o
      have hXs := hA.row
      cases hi : isShift k l
      · have HF := Lib.hid (HN.out k HR.out hi)
        have HI := Lib.hid hi; clear hi
        go_wp2_with fail
        refine (sIsShift k _ l _ (Strs.keep hXs (hx _)) HZ.out).mono ?_
        rintro e w3 ⟨rfl, hb3⟩
        have z3 : wa.heap.size + 1 ≤ w3.heap.size := by have := hb3.size; simp only [World.size_alloc] at this; omega
        have b3 : Below w.heap.size w w3 := (ba.trans ((hx _).mono ba.size)).trans (hb3.mono (Nat.le_trans ba.size (hx _).size))
        have r0 := cell_keep hb3 (cell_keep (hx (.cells #[.int .i64 k, .slice aa n ca] 41)) q1)
        have r1 := cell_keep hb3 (cell_keep (hx (.cells #[.int .i64 k, .slice aa n ca] 41)) q2)
        have r2 : w3.cell? ⟨wa.heap.size, 0, none⟩ = some (.int .i64 k) := cell_keep hb3 (by simp)
        have r3 : w3.cell? ⟨wa.heap.size, 1, none⟩ = some (.slice aa n ca) := cell_keep hb3 (by simp)
        have g0 : w3.frozen? ⟨w.heap.size, 0, none⟩ = false := by rw [hb3.frozen (p := ⟨w.heap.size, 0, none⟩) (show w.heap.size < _ by simp; omega), (hx _).frozen (p := ⟨w.heap.size, 0, none⟩) za]; exact f1
        have g1 : w3.frozen? ⟨w.heap.size, 1, none⟩ = false := by rw [hb3.frozen (p := ⟨w.heap.size, 1, none⟩) (show w.heap.size < _ by simp; omega), (hx _).frozen (p := ⟨w.heap.size, 1, none⟩) za]; exact f2
        replace hA := (hA.keep (hx (.cells #[.int .i64 k, .slice aa n ca] 41))).keep hb3
        have z5 : ¬ wa.heap.size = w.heap.size := by omega
        clear q1 q2 f1 f2 hb3 hXs
        rw [HI.out]
        clear hA
        go_wp2
        refine bodyPost_ret (v := .tuple #[.agg #[.int .i64 0, .slice none 0 0], .bool false]) (by simp [results, Tryz.results32, go_sem, r0, r1]) rfl ?_
        exact shO rfl (Own.nil _ _ _) HF ((b3.setCell (p := ⟨w.heap.size, 0, none⟩) (Nat.le_refl _) _).setCell (p := ⟨w.heap.size, 1, none⟩) (Nat.le_refl _) _)
      · have HF := Lib.hid (HY.out k HR.out hi)
        have HI := Lib.hid hi; clear hi
        go_wp2_with fail
        refine (sIsShift k _ l _ (Strs.keep hXs (hx _)) HZ.out).mono ?_
        rintro e w3 ⟨rfl, hb3⟩
        have z3 : wa.heap.size + 1 ≤ w3.heap.size := by have := hb3.size; simp only [World.size_alloc] at this; omega
        have b3 : Below w.heap.size w w3 := (ba.trans ((hx _).mono ba.size)).trans (hb3.mono (Nat.le_trans ba.size (hx _).size))
        have r0 := cell_keep hb3 (cell_keep (hx (.cells #[.int .i64 k, .slice aa n ca] 41)) q1)
        have r1 := cell_keep hb3 (cell_keep (hx (.cells #[.int .i64 k, .slice aa n ca] 41)) q2)
        have r2 : w3.cell? ⟨wa.heap.size, 0, none⟩ = some (.int .i64 k) := cell_keep hb3 (by simp)
        have r3 : w3.cell? ⟨wa.heap.size, 1, none⟩ = some (.slice aa n ca) := cell_keep hb3 (by simp)
        have g0 : w3.frozen? ⟨w.heap.size, 0, none⟩ = false := by rw [hb3.frozen (p := ⟨w.heap.size, 0, none⟩) (show w.heap.size < _ by simp; omega), (hx _).frozen (p := ⟨w.heap.size, 0, none⟩) za]; exact f1
        have g1 : w3.frozen? ⟨w.heap.size, 1, none⟩ = false := by rw [hb3.frozen (p := ⟨w.heap.size, 1, none⟩) (show w.heap.size < _ by simp; omega), (hx _).frozen (p := ⟨w.heap.size, 1, none⟩) za]; exact f2
        replace hA := (hA.keep (hx (.cells #[.int .i64 k, .slice aa n ca] 41))).keep hb3
        have z5 : ¬ wa.heap.size = w.heap.size := by omega
        clear q1 q2 f1 f2 hb3 hXs
        rw [HI.out]
        go_wp2
        refine bodyPost_ret (v := .tuple #[.agg #[.int .i64 k, .slice aa n ca], .bool true]) (by simp [results, Tryz.results32, go_sem, r0, r1]) rfl ?_
        exact shO rfl ((((hA.setCell_below (a := ⟨w.heap.size, 0, none⟩) z1 _).setCell_below (a := ⟨w.heap.size, 1, none⟩) z1 _).mono (Nat.le_of_lt z1))) HF ((b3.setCell (p := ⟨w.heap.size, 0, none⟩) (Nat.le_refl _) _).setCell (p := ⟨w.heap.size, 1, none⟩) (Nat.le_refl _) _)
end Go.Proofs.YtkohadoicebojaaGreatDoor

namespace Go.Proofs.YtkohadoicebojaaGreatDoor
open Go.RowKit Go.Deep
theorem shift_letters {k : Int} {l : List ByteArray} (h : isShift k l = true) : ∀ s ∈ l, ∀ c ∈ bts s, 97 ≤ c.toNat := by
  unfold isShift at h
  simp only [Bool.and_eq_true, List.all_eq_true, List.mem_range] at h
  intro x hx c hc
  obtain ⟨i, hi, rfl⟩ := List.getElem_of_mem hx
  have h1 := h.2.2 i hi
  unfold shAt at h1
  simp only [Bool.and_eq_true] at h1
  have e : l.getD i ByteArray.empty = l[i] := by rw [List.getD_eq_getElem?_getD, List.getElem?_eq_getElem hi]; rfl
  rw [e] at h1
  have h2 := h1.1
  unfold letters at h2
  have h3 := List.all_eq_true.1 h2 c hc
  unfold letOk at h3
  simp only [Bool.and_eq_true, decide_eq_true_eq] at h3
  omega
theorem shT_parts {k : Int} {l : List ByteArray} (h : isShift k l = true) : splL (shT k l) 32 = fmtI k :: l := by
  have hk := isShift_num h
  unfold shT
  rw [h]
  show splL (joined (shTexts k l) ⟨#[32]⟩) 32 = _
  unfold shTexts
  rw [splL_joined (by simp)]
  intro s hs hc
  rcases List.mem_cons.1 hs with rfl | hs
  · exact isDg_ne (fmtI_dg (by omega) _ hc) (by decide) rfl
  · have := shift_letters h s hs _ hc
    have e : (32 : UInt8).toNat = 32 := rfl
    omega
theorem shT_back {k c : Int} {l l' : List ByteArray} {b : Bool} (h : ShR (shT k l) c l' b) : b = isShift k l ∧ (isShift k l = true → c = k ∧ l' = l) := by
  cases hs : isShift k l
  · refine ⟨?_, fun h => by cases h⟩
    rcases h with ⟨rfl, h1, h2⟩ | ⟨rfl, _⟩
    · exfalso
      have e : shT k l = ByteArray.empty := by unfold shT; rw [hs]; rfl
      rw [e, splL_empty] at h1
      injection h1 with h1 h3
      exact fmtI_ne (by have := isShift_num h2; omega) h1.symm
    · rfl
  · have h0 : ShR (shT k l) k l true := .inl ⟨rfl, shT_parts hs, hs⟩
    obtain ⟨e1, e2, e3⟩ := ShR.eq h h0
    exact ⟨e3, fun _ => ⟨e1, e2⟩⟩
end Go.Proofs.YtkohadoicebojaaGreatDoor

namespace Go.Proofs.YtkohadoicebojaaGreatDoor
open Go.RowKit Go.Deep
def inW (r : List Int) : Prop := ∀ x ∈ r, -999999999999 ≤ x ∧ x ≤ 999999999999
theorem inM.w {r : List Int} (h : inM r) : inW r := fun x hx => by have := h x hx; omega
theorem txtsW_inj : ∀ (r r' : List Int), inW r → inW r' → txts r = txts r' → r = r' := by
  intro r
  induction r with
  | nil => intro r' _ _ h; cases r' with
           | nil => rfl
           | cons a r' => simp [txts] at h
  | cons a r ih =>
    intro r' h1 h2 h
    cases r' with
    | nil => simp [txts] at h
    | cons a' r' =>
      have e1 : fmtI a = fmtI a' := by simp [txts] at h; exact h.1
      have e2 : txts r = txts r' := by simp [txts] at h ⊢; exact h.2
      have b1 := h1 a (List.mem_cons_self ..)
      have b2 := h2 a' (List.mem_cons_self ..)
      have f1 := fmtI_atoi (n := a) (by omega) (by omega) e1
      have f2 := fmtI_atoi (n := a') (by omega) (by omega) rfl
      rw [f1] at f2
      injection f2 with f2
      rw [f2, ih r' (fun x hx => h1 x (List.mem_cons_of_mem _ hx)) (fun x hx => h2 x (List.mem_cons_of_mem _ hx)) e2]
theorem matW_inj : ∀ (m m' : List (List Int)), (∀ r ∈ m, inW r) → (∀ r ∈ m', inW r) → m.map txts = m'.map txts → m = m' := by
  intro m
  induction m with
  | nil => intro m' _ _ h; cases m' with
           | nil => rfl
           | cons a r' => simp at h
  | cons a m ih =>
    intro m' h1 h2 h
    cases m' with
    | nil => simp at h
    | cons a' m' =>
      simp at h
      rw [txtsW_inj a a' (h1 a (List.mem_cons_self ..)) (h2 a' (List.mem_cons_self ..)) h.1, ih m' (fun x hx => h1 x (List.mem_cons_of_mem _ hx)) (fun x hx => h2 x (List.mem_cons_of_mem _ hx)) (by simpa using h.2)]
theorem matW_no {s : ByteArray} {m : List (List Int)} (h : rowsP s = m.map txts) (hi : ∀ r ∈ m, inW r) (hm : isMat m = false) : MatR s [] false :=
  .inr ⟨rfl, rfl, fun m' h1 h2 => by
    have e := matW_inj m m' hi (fun r hr => (isMat_in h1 r hr).w) (h.symm.trans h2)
    subst e
    rw [hm] at h1
    cases h1⟩
theorem rowW_bad {s t : ByteArray} {j : Nat} {n : Int} (ht : (splL s 44)[j]? = some t) (h : Rd (-999999999999) 999999999999 t n false) : RowR s [] false :=
  .inr ⟨rfl, fun r' hr h2 => by
    rw [h2] at ht
    have hx : (txts r')[j]? = r'[j]?.map fmtI := by simp [txts]
    rw [hx] at ht
    obtain ⟨x, hx1, hx2⟩ := Option.map_eq_some_iff.1 ht
    have hb := hr x (List.mem_of_getElem? hx1)
    rcases h with ⟨h3, _⟩ | ⟨_, _, h3⟩
    · cases h3
    · exact h3 x (by omega) (by omega) hx2⟩
set_option maxRecDepth 10000 in
set_option maxHeartbeats 800000 in
theorem sParseMatrix (s : ByteArray) (w : World) (hs : s.size ≤ 1048576) :
    Calls Tryz.prog 14 #[.string s] w (MatE s w) := by
  have hlen := splL_small s 47 hs
  have hE := OwnMat.empty 62 3 w
  have hEb := below_alloc w (.cells #[] 62)
  have hSp : Hid (Calls Tryz.prog 65 #[.string s, .int .u8 47] (w.alloc (.cells #[] 62)) _) := Lib.hid (sSplitByte s 47 (w.alloc (.cells #[] 62)) hs)
  have HP : Hid (∀ p ∈ splL s 47, p.size ≤ 1048576) := Lib.hid fun p hp => Nat.le_trans (part_size hp) hs
  have HB : Hid (∀ j p i t n, (splL s 47)[j]? = some p → (splL p 44)[i]? = some t → Rd (-999999999999) 999999999999 t n false → MatR s [] false) := Lib.hid fun j p i t n h1 h2 h3 => matR_bad h1 (rowW_bad h2 h3)
  have HG : Hid (∀ m, (splL s 47).map (fun p => splL p 44) = m.map txts → (∀ r ∈ m, inW r) → MatR s (if isMat m then m else []) (isMat m)) := Lib.hid fun m h1 h2 => by
    cases h : isMat m
    · exact matW_no h1 h2 h
    · exact .inl ⟨rfl, h1, h⟩
  obtain ⟨L, hL⟩ : ∃ L, splL s 47 = L := ⟨_, rfl⟩
  rw [hL] at hSp HP HB HG hlen
  clear hL
  obtain ⟨n, hn⟩ : ∃ n, L.length = n := ⟨_, rfl⟩
  go_enter Tryz.func14, Tryz.ntmps14
  go_wp2_with fail
  refine hSp.out.mono ?_
  rintro e w1 ⟨vp, rfl, (hop : OwnS _ _ _ _ _), hb1⟩
  have b1 := hEb.trans (hb1.mono hEb.size)
  have hq0 := hE.keep hb1
  have hz0 : (w.alloc (.cells #[] 62)).heap.size = w.heap.size + 1 := by simp
  rw [hz0] at hop
  have hopH := OwnS.toH hop
  have hz1 := hb1.size
  rw [hz0] at hz1
  obtain ⟨ap, cp, rfl⟩ := Own.form hop (show (strs L).length = n by rw [strs_length, hn])
  rw [hn] at hlen
  have hO0 : Out (w.heap.size + 1) w1.heap.size (.slice (some ⟨w.heap.size, 0, none⟩) 0 0) := fun k hk => by
    have e : w.heap.size = k := by simpa [Value.ownBlock] using hk
    exact .inl (by omega)
  clear hE hEb hSp hop hb1 hz0
  go_wp2
  go_loopw [4, 6] (fun q i wr => ∃ (j : Nat) (m : List (List Int)), j ≤ n ∧ i = .int .i64 j ∧ OwnMat 62 3 w.heap.size wr q m ∧ Hid ((L.take j).map (fun p => splL p 44) = m.map txts ∧ ∀ r ∈ m, inW r) ∧ Below w.heap.size w wr ∧ w1.heap.size ≤ wr.heap.size ∧ OwnSH 9 (w.heap.size + 1) w1.heap.size wr (.slice ap n cp) L ∧ Out (w.heap.size + 1) w1.heap.size q) (fun _ i _ => n - (intOf i).toNat)
  case atStart => exact ⟨0, [], Nat.zero_le _, rfl, hq0, Lib.hid ⟨rfl, fun x hx => by cases hx⟩, b1, Nat.le_refl _, hopH, hO0⟩
  case round =>
    clear hq0 hopH hO0 b1
    obtain ⟨j, m, hj, rfl, hq, HT, bq, hw1, hop, hO⟩ := hrel
    have hsq := bq.size
    by_cases hlt : j < n
    · obtain ⟨a9, n9, c9, e9, HL9, _, HC9⟩ := hop.strs.open
      simp only [Value.slice.injEq] at e9
      obtain ⟨e91, e92, -⟩ := e9
      obtain ⟨bk, off, x, e93, hc1, HX⟩ := HC9.out j (by omega)
      obtain rfl : ap = some ⟨bk, off, none⟩ := e91.trans e93
      clear e91 e92 e93 HC9 HL9
      have hxs := HP.out x (List.mem_of_getElem? HX.out)
      have hxl := splL_small x 44 hxs
      have hrE := Own.empty 3 wr
      have hrEb := below_alloc wr (.cells #[] 3)
      have hc2 := cell_keep hrEb hc1
      have hSp : Hid (Calls Tryz.prog 65 #[.string x, .int .u8 44] (wr.alloc (.cells #[] 3)) _) := Lib.hid (sSplitByte x 44 (wr.alloc (.cells #[] 3)) hxs)
      have HP2 : Hid (∀ p ∈ splL x 44, p.size ≤ 1048576) := Lib.hid fun p hp => Nat.le_trans (part_size hp) hxs
      have HB2 : Hid (∀ i t n, (splL x 44)[i]? = some t → Rd (-999999999999) 999999999999 t n false → MatR s [] false) := Lib.hid fun i t n h2 h3 => HB.out j x i t n HX.out h2 h3
      have HTX : Hid (∀ r, splL x 44 = txts r → inW r → (L.take (j + 1)).map (fun p => splL p 44) = (m ++ [r]).map txts ∧ ∀ z ∈ m ++ [r], inW z) := Lib.hid fun r h1 h2 => ⟨by rw [take_snoc HX.out, List.map_append, HT.out.1, List.map_append]; simp [h1], fun z hz => by
          rcases List.mem_append.1 hz with hz | hz
          · exact HT.out.2 z hz
          · rw [List.mem_singleton.1 hz]; exact h2⟩
      have hml : Hid (m.length = j) := Lib.hid (by have := congrArg List.length HT.out.1; rw [List.length_map, List.length_map, List.length_take] at this; omega)
      obtain ⟨L2, hL2⟩ : ∃ L2, splL x 44 = L2 := ⟨_, rfl⟩
      rw [hL2] at hSp HP2 HB2 HTX hxl
      clear hL2
      obtain ⟨n2, hn2⟩ : ∃ n2, L2.length = n2 := ⟨_, rfl⟩
      go_wp2_with fail
      refine hSp.out.mono ?_
      rintro e w3 ⟨vp2, rfl, (hop2 : OwnS _ _ _ _ _), hb3⟩
      have b3 := hrEb.trans (hb3.mono hrEb.size)
      have hr0 := hrE.keep hb3
      have hz0 : (wr.alloc (.cells #[] 3)).heap.size = wr.heap.size + 1 := by simp
      rw [hz0] at hop2
      have hop2H := OwnS.toH hop2
      have hz3 := hb3.size
      rw [hz0] at hz3
      obtain ⟨ap2, cp2, rfl⟩ := Own.form hop2 (show (strs L2).length = n2 by rw [strs_length, hn2])
      rw [hn2] at hxl
      have hO2 : Out (wr.heap.size + 1) w3.heap.size (.slice (some ⟨wr.heap.size, 0, none⟩) 0 0) := fun k hk => by
        have e : wr.heap.size = k := by simpa [Value.ownBlock] using hk
        exact .inl (by omega)
      clear hrE hrEb hSp hop2 hb3 hz0 hc1 hc2
      go_wp2
      go_loopw [7, 9] (fun q2 i wz => ∃ (k : Nat) (r : List Int), k ≤ n2 ∧ i = .int .i64 k ∧ Own 3 wr.heap.size wz q2 (ints r) ∧ Hid (L2.take k = txts r ∧ inW r) ∧ Below wr.heap.size wr wz ∧ w3.heap.size ≤ wz.heap.size ∧ OwnSH 9 (wr.heap.size + 1) w3.heap.size wz (.slice ap2 n2 cp2) L2 ∧ Out (wr.heap.size + 1) w3.heap.size q2) (fun _ i _ => n2 - (intOf i).toNat)
      case atStart => exact ⟨0, [], Nat.zero_le _, rfl, hr0, Lib.hid ⟨rfl, fun x hx => by cases hx⟩, b3, Nat.le_refl _, hop2H, hO2⟩
      case round =>
        clear hr0 hop2H hO2 b3
        obtain ⟨k, r, hk, rfl, hr, HR2, bz, hw3, hopz, hOz⟩ := hrel
        have hsz := bz.size
        have bwz := bq.trans (bz.mono hsq)
        by_cases hltk : k < n2
        · obtain ⟨a9, n9, c9, e9, HL9, _, HC9⟩ := hopz.strs.open
          simp only [Value.slice.injEq] at e9
          obtain ⟨e91, e92, -⟩ := e9
          obtain ⟨bk2, off2, t, e93, hct, HTt⟩ := HC9.out k (by omega)
          obtain rfl : ap2 = some ⟨bk2, off2, none⟩ := e91.trans e93
          clear e91 e92 e93 HC9 HL9
          have hts := HP2.out t (List.mem_of_getElem? HTt.out)
          go_wp2_with fail
          refine (sParseInt t _ hts).mono ?_
          rintro e w4 ⟨y, ok, rfl, HR, hb4⟩
          have b4 := bz.trans (hb4.mono hsz)
          have bw4 := bq.trans (b4.mono hsq)
          have hs4 := b4.size
          cases ok with
          | false =>
            have HF := Lib.hid (HB2.out k t y HTt.out HR.out)
            have hfin := OwnMat.empty 62 3 w4
            have hfin2 := OwnMat.mono hfin (Nat.le_trans hsq hs4)
            have bfin := bw4.trans ((below_alloc w4 (.cells #[] 62)).mono bw4.size)
            go_wp2
            go_ret2
            exact matE rfl hfin2 HF bfin
          | true =>
            obtain ⟨y0, y1, hy⟩ := rd_true HR.out
            have HN : Hid (L2.take (k + 1) = txts (r ++ [y]) ∧ inW (r ++ [y])) := Lib.hid ⟨by rw [take_snoc HTt.out, HR2.out.1, txts_snoc, hy], fun z hz => by
              rcases List.mem_append.1 hz with hz | hz
              · exact HR2.out.2 z hz
              · rw [List.mem_singleton.1 hz]; exact ⟨y0, y1⟩⟩
            have hrl : Hid (r.length = k) := Lib.hid (by have := congrArg List.length HR2.out.1; rw [txts_len, List.length_take] at this; omega)
            have hr4 := hr.keep hb4
            have hop4 := hopz.keep hb4
            have hs5 := hb4.size
            clear hy
            go_wp2_with (at_builtin; refine app1b 62 3 8 (.int .i64 0) Tryz.underlying62 Tryz.infoInt rfl hr4 (.int .i64 y) rfl ?h1 ?h2 hs4 rfl _ _ rfl rfl rfl (by simp) ?_)
            case h1 => rw [ints_length, hrl.out]; unfold maxLen; omega
            case h2 => rw [ints_length, hrl.out]; omega
            intro q' w6 hq6 hg hsz6 hblk
            go_wp2
            go_roundw
            case rel => exact ⟨k + 1, r ++ [y], by omega, by go_num, by simpa [ints] using hq6, HN, b4.trans (hr4.below hg (Nat.le_refl _) hs4), by have := hg.size; omega, hop4.grownOut hg hOz, hOz.next hblk (by omega)⟩
            case measure => simp [intOf]; omega
        · have HN := Lib.hid (HTX.out r (by have := HR2.out.1; rwa [List.take_of_length_le (by omega)] at this) HR2.out.2)
          have hH2 := (OwnMat.toH hq).keep bz
          have hown := hH2.toM.own
          have hopw := hop.keep bz
          obtain ⟨ar, nr, cr, rfl⟩ := hr.formI
          go_wp2_with (at_builtin; refine appMb 24 62 3 Tryz.underlying24 Tryz.infoInts (by decide) hH2 hr hsq hsz ?h1 rfl _ _ rfl rfl rfl (by simp) ?_)
          case h1 => rw [hml.out]; omega
          intro q' w6 hq6 hg hsz6 hblk
          have hb6 := bwz.trans (grow_below hg (fun k hk => (hown k hk).1) (Nat.le_refl _) (by omega))
          go_wp2
          go_roundw
          case rel => exact ⟨j + 1, m ++ [r], by omega, by go_num, hq6, HN, hb6, by omega, hopw.grownOut hg hO, hO.next hblk (by omega)⟩
          case measure => simp [intOf]; omega
    · have HF := Lib.hid (HG.out m (by have := HT.out.1; rwa [List.take_of_length_le (by omega)] at this) HT.out.2)
      have HM := Lib.hid hq.mat
      obtain ⟨aq, cq, rfl⟩ := hq.form
      have hfin2 := OwnMat.mono (OwnMat.empty 62 3 wr) hsq
      have bfin := bq.trans ((below_alloc wr (.cells #[] 62)).mono hsq)
      cases hmm : isMat m
      · rw [hmm] at HF
        have HI := Lib.hid hmm
        clear hmm
        go_wp2_with fail
        refine (sIsMatrix _ m _ HM.out).mono ?_
        rintro e w5 ⟨rfl, rfl⟩
        rw [HI.out]
        go_wp2
        go_ret2
        exact matE rfl hfin2 HF bfin
      · rw [hmm] at HF
        have HI := Lib.hid hmm
        clear hmm
        go_wp2_with fail
        refine (sIsMatrix _ m _ HM.out).mono ?_
        rintro e w5 ⟨rfl, rfl⟩
        rw [HI.out]
        go_wp2
        go_ret2
        exact matE rfl hq HF bq
end Go.Proofs.YtkohadoicebojaaGreatDoor

namespace Go.Proofs.YtkohadoicebojaaGreatDoor
open Go.RowKit Go.Deep
def mlits : List ByteArray := [⟨#[49, 44, 49, 47, 49, 44, 48]⟩, ⟨#[50]⟩, ⟨#[49, 44, 49, 47, 49, 44, 49]⟩, ⟨#[48, 44, 49, 47, 49, 44, 48]⟩, ⟨#[48, 44, 49, 44, 48, 47, 48, 44, 48, 44, 49, 47, 49, 44, 49, 44, 48]⟩, ⟨#[49, 44, 49, 44, 48, 47, 48, 44, 49, 44, 49, 47, 49, 44, 48, 44, 49]⟩, ⟨#[49, 44, 48, 47, 49, 44, 49]⟩, ⟨#[48, 44, 49, 47, 48, 44, 48]⟩, ⟨#[51]⟩, ⟨#[49, 44, 50, 47, 49, 44, 48]⟩, ⟨#[48]⟩, ⟨#[48, 44, 50, 47, 49, 44, 48]⟩]
theorem fmt1 : fmtI 1 = ⟨#[49]⟩ := by
  unfold fmtI
  rw [show (1 : Int) = ((1 : Nat) : Int) from rfl, Lib.itoa_nonneg, Lib.decDigits_one (by omega)]; rfl
theorem fmt2 : fmtI 2 = ⟨#[50]⟩ := by
  unfold fmtI
  rw [show (2 : Int) = ((2 : Nat) : Int) from rfl, Lib.itoa_nonneg, Lib.decDigits_one (by omega)]; rfl
theorem fmt3 : fmtI 3 = ⟨#[51]⟩ := by
  unfold fmtI
  rw [show (3 : Int) = ((3 : Nat) : Int) from rfl, Lib.itoa_nonneg, Lib.decDigits_one (by omega)]; rfl
theorem mlit_ok : ∀ s ∈ mlits, ∃ m, isMat m = true ∧ rowsP s = m.map txts := by
  intro s hs
  simp only [mlits, List.mem_cons, List.not_mem_nil, or_false] at hs
  rcases hs with rfl | rfl | rfl | rfl | rfl | rfl | rfl | rfl | rfl | rfl | rfl | rfl
  · refine ⟨[[1,1], [1,0]], by decide, ?_⟩
    simp only [List.map_cons, List.map_nil, txts, fmtI_zero, fmt1]
    rfl
  · refine ⟨[[2]], by decide, ?_⟩
    simp only [List.map_cons, List.map_nil, txts, fmt2]
    rfl
  · refine ⟨[[1,1], [1,1]], by decide, ?_⟩
    simp only [List.map_cons, List.map_nil, txts, fmt1]
    rfl
  · refine ⟨[[0,1], [1,0]], by decide, ?_⟩
    simp only [List.map_cons, List.map_nil, txts, fmtI_zero, fmt1]
    rfl
  · refine ⟨[[0,1,0], [0,0,1], [1,1,0]], by decide, ?_⟩
    simp only [List.map_cons, List.map_nil, txts, fmtI_zero, fmt1]
    rfl
  · refine ⟨[[1,1,0], [0,1,1], [1,0,1]], by decide, ?_⟩
    simp only [List.map_cons, List.map_nil, txts, fmtI_zero, fmt1]
    rfl
  · refine ⟨[[1,0], [1,1]], by decide, ?_⟩
    simp only [List.map_cons, List.map_nil, txts, fmtI_zero, fmt1]
    rfl
  · refine ⟨[[0,1], [0,0]], by decide, ?_⟩
    simp only [List.map_cons, List.map_nil, txts, fmtI_zero, fmt1]
    rfl
  · refine ⟨[[3]], by decide, ?_⟩
    simp only [List.map_cons, List.map_nil, txts, fmt3]
    rfl
  · refine ⟨[[1,2], [1,0]], by decide, ?_⟩
    simp only [List.map_cons, List.map_nil, txts, fmtI_zero, fmt1, fmt2]
    rfl
  · refine ⟨[[0]], by decide, ?_⟩
    simp only [List.map_cons, List.map_nil, txts, fmtI_zero]
    rfl
  · refine ⟨[[0,2], [1,0]], by decide, ?_⟩
    simp only [List.map_cons, List.map_nil, txts, fmtI_zero, fmt1, fmt2]
    rfl
theorem mlit_small : ∀ s ∈ mlits, s.size ≤ 100 := by
  intro s hs
  simp only [mlits, List.mem_cons, List.not_mem_nil, or_false] at hs
  rcases hs with rfl | rfl | rfl | rfl | rfl | rfl | rfl | rfl | rfl | rfl | rfl | rfl <;> decide
/-- A small table whose first row begins with a number. -/
def SmallM (m : List (List Int)) : Prop := (∃ r x, m[0]? = some r ∧ r[0]? = some x) ∧ m.length ≤ 9 ∧ ∀ r ∈ m, r.length ≤ 9
theorem isMat_smallM {m : List (List Int)} (h : isMat m = true) : SmallM m := by
  have hl := isMat_len h
  obtain ⟨r, hr⟩ : ∃ r, m[0]? = some r := ⟨_, List.getElem?_eq_getElem (by omega)⟩
  have hrl := isMat_row h hr
  refine ⟨⟨r, _, hr, List.getElem?_eq_getElem (by omega)⟩, hl.2, fun r hr => ?_⟩
  obtain ⟨i, hi⟩ := List.getElem?_of_mem hr
  rw [isMat_row h hi]; exact hl.2
theorem tabF_smallM {n : Nat} (h1 : 1 ≤ n) (h : n ≤ 9) (f : Nat → Nat → Int) : SmallM (tabF n n f) := by
  refine ⟨⟨_, _, tabF_get (by omega), rowF_get (by omega)⟩, by rw [tabF_length]; exact h, fun r hr => ?_⟩
  obtain ⟨i, hi⟩ := List.getElem?_of_mem hr
  have hi2 := (List.getElem?_eq_some_iff.1 hi).1
  rw [tabF_length] at hi2
  rw [tabF_get hi2] at hi
  rw [← Option.some.inj hi, rowF_length]; exact h
theorem matR_lit {s : ByteArray} {m : List (List Int)} {b : Bool} (hs : s ∈ mlits) (h : MatR s m b) : SmallM m := by
  rcases h with ⟨_, _, h⟩ | ⟨_, _, h⟩
  · exact isMat_smallM h
  · obtain ⟨m', h1, h2⟩ := mlit_ok s hs
    exact (h m' h1 h2).elim
theorem growL {w w' : World} (h : Below w.heap.size w w') (b : Option Nat) : w.grownBy w' b := ⟨h.os, h.tape, h.output, h.size, fun k hk _ => h.block k hk⟩
theorem growSet {w w1 : World} {b : Option Nat} (h : w.grownBy w1 b) {a : Addr} (ha : w.heap.size ≤ a.block) (u : Value) : w.grownBy (w1.setCell a u) b :=
  ⟨h.os, h.tape, h.output, by simpa using h.size, fun k hk hne => by rw [blk_setCell_other w1 a u k (by omega)]; exact h.block k hk hne⟩
theorem growU0 {w w1 w2 : World} {b b1 : Option Nat} (h : w.grownBy w1 b) (h2 : w1.grownBy w2 b1) (hb : b1 = b ∨ ∀ k, b1 = some k → w.heap.size ≤ k) : w.grownBy w2 b := by
  refine ⟨h2.os.trans h.os, h2.tape.trans h.tape, h2.output.trans h.output, Nat.le_trans h.size h2.size, fun k hk hne => (h2.block k (Nat.lt_of_lt_of_le hk h.size) fun e => ?_).trans (h.block k hk hne)⟩
  rcases hb with hb | hb
  · exact hne (e.trans hb)
  · have := hb k e.symm; omega
theorem growU {w w1 w2 : World} {b b1 : Option Nat} (h : w.grownBy w1 b) (h2 : w1.grownBy w2 b1) (hb : ∀ k, b1 = some k → w.heap.size ≤ k) : w.grownBy w2 b := growU0 h h2 (.inr hb)
theorem Cur.set {w0 w : World} {N n : Nat} {v : Value} (h : Cur w0 N v n w) {a : Addr} (ha : N < a.block) (u : Value) : Cur w0 N v n (w.setCell a u) := by
  obtain ⟨h1, h2, i, k, h3, h4⟩ := h
  exact ⟨h1, h2.setCell (Nat.le_trans h1 (Nat.le_of_lt ha)) u, i, k, h3, h4.of_block (blk_setCell_other w a u N (by omega))⟩
theorem Cur.grown {w0 w w' : World} {N n : Nat} {v : Value} (h : Cur w0 N v n w) {b : Option Nat} (hg : w.grownBy w' b) (hb : ∀ k, b = some k → N < k) : Cur w0 N v n w' := by
  have hlt := h.lt
  obtain ⟨h1, h2, i, k, h3, h4⟩ := h
  refine ⟨h1, ⟨by rw [hg.os, h2.os], by rw [hg.tape, h2.tape], by rw [hg.output, h2.output], Nat.le_trans h2.size hg.size, fun j hj => ?_⟩, i, k, h3, h4.of_block (hg.block N hlt fun e => ?_)⟩
  · rw [hg.block j (Nat.lt_of_lt_of_le hj h2.size) fun e => by have := hb j e.symm; omega]; exact h2.block j hj
  · have := hb N e.symm; omega
theorem Own.grownN {e : TypeId} {B N : Nat} {w w' : World} {v : Value} {xs : List Value} (h : Own e B w v xs) (hg : w.grownBy w' (some N)) (hN : N < B) : Own e B w' v xs := by
  refine h.grown hg ?_
  cases e2 : v.ownBlock with
  | none => exact .inl rfl
  | some k => exact .inr fun e3 => by have := (h.lt k e2).1; have := Option.some.inj e3; omega
theorem OwnMat.grownN {tr ti : TypeId} {B N : Nat} {w w' : World} {v : Value} {m : List (List Int)} (h : OwnMat tr ti B w v m) (hg : w.grownBy w' (some N)) (hN : N < B) : OwnMat tr ti B w' v m := by
  obtain ⟨vs, h1, h2⟩ := h
  exact ⟨vs, h1.grownN hg hN, h2.1, fun i hi hi' => (h2.2.1 i hi hi').grownN hg hN, h2.2.2⟩
/-- A number of an owned table, in every world that leaves the table as it is. -/
theorem OwnMat.at3 {tr ti : TypeId} {B : Nat} {w : World} {v : Value} {m : List (List Int)} (h : OwnMat tr ti B w v m) (hne : ti ≠ tr) {i j : Nat} {r : List Int} {x : Int} (hr : m[i]? = some r) (hx : r[j]? = some x) :
    ∃ g cap gj capj, v = .slice (some ⟨g, 0, none⟩) m.length cap ∧ B ≤ g ∧ B ≤ gj ∧ g < w.heap.size ∧ gj ≠ g ∧ w.cell? ⟨g, i, none⟩ = some (.slice (some ⟨gj, 0, none⟩) r.length capj) ∧
      Hid (∀ w', w'.cell? ⟨g, i, none⟩ = some (.slice (some ⟨gj, 0, none⟩) r.length capj) → OwnMat tr ti B w' v m → w'.cell? ⟨gj, j, none⟩ = some (.int .i64 x) ∧ w'.frozen? ⟨gj, j, none⟩ = false ∧ ∀ y, OwnMat tr ti B (w'.setCell ⟨gj, j, none⟩ (.int .i64 y)) v (setAt m i j y)) := by
  have hown := h.own
  obtain ⟨g, cap, gj, capj, rfl, h1, h2, h3, h4, h5⟩ := h.at2 hne hr hx
  have hgg : gj ≠ g := fun e => by
    subst e
    obtain ⟨g2, cap2, u, hv2, hc2, hu2, _⟩ := h.toH.row hr
    simp only [Value.slice.injEq, Option.some.injEq, Addr.mk.injEq, and_true, true_and] at hv2
    obtain ⟨rfl, _⟩ := hv2
    rw [h1] at hc2
    obtain rfl := Option.some.inj hc2
    obtain ⟨vs, k1, _⟩ := id h
    obtain ⟨c1, e1⟩ := k1.cells rfl
    obtain ⟨c2, e2⟩ := hu2.cells rfl
    rw [e1] at e2
    simp only [Option.some.injEq, Obj.cells.injEq] at e2
    exact hne e2.2.1.symm
  refine ⟨g, cap, gj, capj, rfl, (hown g rfl).1, h4, (hown g rfl).2, hgg, h1, Lib.hid fun w' hc ho => ?_⟩
  obtain ⟨g', cap', gj', capj', e, k1, k2, k3, k4, k5⟩ := ho.at2 hne hr hx
  simp only [Value.slice.injEq, Option.some.injEq, Addr.mk.injEq, and_true, true_and] at e
  obtain ⟨rfl, rfl⟩ := e
  rw [hc] at k1
  simp only [Option.some.injEq, Value.slice.injEq, Addr.mk.injEq, and_true, true_and] at k1
  obtain ⟨rfl, rfl⟩ := k1
  exact ⟨k2, k3, k5.out⟩
set_option maxRecDepth 10000 in
set_option maxHeartbeats 800000 in
theorem l4Draw (w0 : World) (N n : Nat) (v : Value) (l : List UInt8) (w : World) (hv : BytesV w0 v l) (hl : l.length = n) (hC : Cur w0 N v n w) (most : Nat) (hm1 : 1 ≤ most) (hm : most ≤ 4) :
    Calls Tryz.prog 62 #[.pointer (some ⟨N, 0, none⟩), .int .i64 most] w fun e w' => ∃ v' m, e = .returned v' ∧ OwnMat 62 3 w.heap.size w' v' m ∧ SmallM m ∧ Cur w0 N v n w' ∧ w.grownBy w' (some N) := by
  have hlt0 := hC.lt
  go_enter Tryz.func62, Tryz.ntmps62
  go_wp2_with fail
  refine (l1Once w0 N n v l _ hv hl hC 3 (by omega) (by omega)).mono ?_
  rintro e w1 ⟨o, rfl, hC1, hg1⟩
  have z1 := hg1.size
  cases ho : decide (o = 0)
  · go_wp2_with fail
    refine (l1Below w0 N n v l _ hv hl hC1 most hm1 (by omega)).mono ?_
    rintro e w2 ⟨c, rfl, hc, hC2, hg2⟩
    obtain ⟨k, hk⟩ : ∃ k, 1 + c = k := ⟨_, rfl⟩
    have hk2 : 1 ≤ k := by omega
    have hk3 : k ≤ 4 := by omega
    have z2 := hg2.size
    go_wp2_with fail
    rw [show (1 : Int) + (c : Int) = (k : Int) by omega]
    refine (sZero k k _ (by omega) (by omega)).mono ?_
    rintro e w3 ⟨v3, rfl, ho3, hb3⟩
    have hC3 := hC2.keep hb3
    have hg3 := (hg1.trans hg2).trans (growL hb3 (some N))
    replace ho3 := ho3.mono (show w.heap.size ≤ w2.heap.size by omega)
    have hsm := Lib.hid (fun f => tabF_smallM hk2 (show k ≤ 9 by omega) f)
    have hf3 : ∃ f, OwnMat 62 3 w.heap.size w3 v3 (tabF k k f) := ⟨_, ho3⟩
    clear ho3 hC1 hC2 hg1 hg2 hb3 z1 z2 hc hk
    go_wp2
    go_loopw [9] (fun i wr => ∃ j : Nat, j ≤ k ∧ i = .int .i64 j ∧ (∃ f, OwnMat 62 3 w.heap.size wr v3 (tabF k k f)) ∧ Cur w0 N v n wr ∧ w.grownBy wr (some N)) (fun i _ => k - (intOf i).toNat)
    case atStart => exact ⟨0, Nat.zero_le _, rfl, hf3, hC3, hg3⟩
    case round =>
      clear hf3 hC3 hg3
      obtain ⟨i, hi, rfl, hf, hCr, hgr⟩ := hrel
      by_cases hlt : i < k
      · go_wp2
        go_loopw [10] (fun x wr => ∃ j : Nat, j ≤ k ∧ x = .int .i64 j ∧ (∃ f, OwnMat 62 3 w.heap.size wr v3 (tabF k k f)) ∧ Cur w0 N v n wr ∧ w.grownBy wr (some N)) (fun x _ => k - (intOf x).toNat)
        case atStart => exact ⟨0, Nat.zero_le _, rfl, hf, hCr, hgr⟩
        case round =>
          clear hf hCr hgr
          obtain ⟨j, hj, rfl, ⟨f, hf⟩, hCz, hgz⟩ := hrel
          by_cases hlt2 : j < k
          · obtain ⟨g, cg, gj, cj, rfl, hgB, hgjB, hgs, hgg, hc1, HST⟩ := hf.at3 (by decide) (tabF_get hlt) (rowF_get hlt2)
            rw [tabF_length, rowF_length] at *
            have hd : Below wr.heap.size wr wr.drew := (Below.refl _ _).drew
            have hCd := hCz.keep hd
            have hfd := hf.keep hd
            have hgd := hgz.trans (grow_drew wr 1 (some N))
            have hcd : wr.drew.cell? ⟨g, i, none⟩ = some (.slice (some ⟨gj, 0, none⟩) k cj) := cell_keep hd hc1
            have hcA : (wr.drew.alloc (.cells #[.int .i64 0, .int .i64 1, .int .i64 0, .int .i64 1, .int .i64 2] 3)).cell? ⟨g, i, none⟩ = some (.slice (some ⟨gj, 0, none⟩) k cj) := cell_keep (below_alloc _ _) hcd
            have hP := Lib.hid (pickI w0 N n v l wr.drew hv hl hCd [0, 1, 0, 1, 2] 3 5 rfl (by omega) (by omega) 5)
            have hgN : g ≠ N := by omega
            go_wp2
            go_region_held3 (fun w' => w'.cell? ⟨g, i, none⟩ = some (.slice (some ⟨gj, 0, none⟩) k cj))
              (first | assumption | go_keep)
              ((go_at_call 57; refine hP.out.mono ?_; rintro e w5 ⟨y, rfl, _, hC5, hg5⟩; have hc5 : w5.cell? ⟨g, i, none⟩ = some (.slice (some ⟨gj, 0, none⟩) k cj) := hg5.cell hcd (fun e => hgN (Option.some.inj e)); obtain ⟨hx5, hf5, HS5⟩ := HST.out w5 hc5 (hfd.grownN hg5 hlt0); have hc6 : (w5.setCell ⟨gj, j, none⟩ (.int .i64 y)).cell? ⟨g, i, none⟩ = some (.slice (some ⟨gj, 0, none⟩) k cj) := by rw [World.cell?_of_block (blk_setCell_other w5 ⟨gj, j, none⟩ _ g (fun e => hgg e.symm))]; exact hc5))
            go_wp2
            go_roundw
            case rel => exact ⟨j + 1, by omega, by go_num, ⟨_, by have h9 := HS5 y; rw [setAt_tabF _ _ _ _ _ _ hlt] at h9; exact h9⟩, hC5.set (a := ⟨gj, j, none⟩) (show N < gj by omega) _, growSet (hgd.trans hg5) (a := ⟨gj, j, none⟩) hgjB _⟩
            case measure => simp [intOf]; omega
          · go_wp2
            go_roundw
            case rel => exact ⟨i + 1, by omega, by go_num, ⟨f, hf⟩, hCz, hgz⟩
            case measure => simp [intOf]; omega
      · obtain ⟨f, hf⟩ := hf
        have hS := hsm.out f
        go_wp2
        go_ret
        exact ⟨_, _, rfl, hf, hS, hCr, hgr⟩
  · have hP := Lib.hid (pickS w0 N n v l w1 hv hl hC1 mlits 9 12 12 rfl (by omega) (by omega) (by omega) 12)
    go_wp2_with fail
    refine hP.out.mono ?_
    rintro e w2 ⟨s, rfl, hs, hC2, hg2⟩
    have hs2 := mlit_small s hs
    have HM := Lib.hid (fun m b (h : MatR s m b) => matR_lit hs h)
    clear hs hP
    go_wp2_with fail
    refine (sParseMatrix s _ (by omega)).mono ?_
    rintro e w3 ⟨v3, m, b, rfl, ho3, HR, hb3⟩
    have hS := HM.out m b HR.out
    have hC3 := hC2.keep hb3
    have z2 := hg2.size
    have hg3 := (hg1.trans hg2).trans (growL hb3 (some N))
    replace ho3 := ho3.mono (show w.heap.size ≤ w2.heap.size by omega)
    clear HM HR
    obtain ⟨a3, c3, rfl⟩ := ho3.form
    go_wp2
    go_ret
    exact ⟨_, m, rfl, ho3, hS, hC3, hg3⟩
def SmallB (m : List (List Int)) : Prop := m.length ≤ 10 ∧ ∀ r ∈ m, r.length ≤ 9
theorem SmallM.b {m : List (List Int)} (h : SmallM m) : SmallB m := ⟨Nat.le_succ_of_le h.2.1, h.2.2⟩
theorem smallB_set {m : List (List Int)} (h : SmallM m) (i j : Nat) (y : Int) : SmallB (setAt m i j y) := by
  refine ⟨by unfold setAt; rw [List.length_set]; exact Nat.le_succ_of_le h.2.1, fun r hr => ?_⟩
  unfold setAt at hr
  rcases List.mem_or_eq_of_mem_set hr with hr | rfl
  · exact h.2.2 r hr
  · rw [List.length_set]
    by_cases hi : i < m.length
    · rw [List.getD_eq_getElem?_getD, List.getElem?_eq_getElem hi]
      exact h.2.2 _ (List.getElem_mem hi)
    · rw [List.getD_eq_getElem?_getD, List.getElem?_eq_none (by omega)]
      exact Nat.zero_le _
theorem smallB_app {m : List (List Int)} (h : SmallM m) : SmallB (m ++ [[1]]) := by
  refine ⟨by have := h.2.1; simp; omega, fun r hr => ?_⟩
  rcases List.mem_append.1 hr with hr | hr
  · exact h.2.2 r hr
  · rw [List.mem_singleton.1 hr]; simp
theorem smallB_total {m : List (List Int)} (h : SmallB m) : m.length + total m ≤ 1000 := by
  have key : ∀ l : List (List Int), (∀ r ∈ l, r.length ≤ 9) → total l ≤ 9 * l.length := by
    intro l
    induction l with
    | nil => intro _; simp [total]
    | cons a l ih =>
      intro h
      have h1 := h a (List.mem_cons_self ..)
      have h2 := ih fun r hr => h r (List.mem_cons_of_mem _ hr)
      simp [total] at h2 ⊢
      omega
  have := key m h.2
  have := h.1
  omega
set_option maxRecDepth 10000 in
set_option maxHeartbeats 800000 in
theorem l4Bent (w0 : World) (N n : Nat) (v : Value) (l : List UInt8) (w : World) (hv : BytesV w0 v l) (hl : l.length = n) (hC : Cur w0 N v n w) :
    Calls Tryz.prog 55 #[.pointer (some ⟨N, 0, none⟩)] w fun e w' => ∃ v' m, e = .returned v' ∧ OwnMat 62 3 w.heap.size w' v' m ∧ SmallB m ∧ Cur w0 N v n w' ∧ w.grownBy w' (some N) := by
  have hlt0 := hC.lt
  go_enter Tryz.func55, Tryz.ntmps55
  go_wp2_with fail
  refine (l4Draw w0 N n v l _ hv hl hC 4 (by omega) (by omega)).mono ?_
  rintro e w1 ⟨v1, m, rfl, ho1, hS, hC1, hg1⟩
  have z1 := hg1.size
  go_wp2_with fail
  refine (l1Below w0 N n v l _ hv hl hC1 16 (by omega) (by omega)).mono ?_
  rintro e w2 ⟨d, rfl, hd, hC2, hg2⟩
  replace ho1 := ho1.grownN hg2 hlt0
  have z2 := hg2.size
  have hg := hg1.trans hg2
  have HS := Lib.hid hS
  clear hC1 hg1 hg2 hd
  by_cases d0 : d = 0
  · subst d0
    rw [show ((0 : Nat) : Int) = 0 from rfl]
    obtain ⟨⟨r, x, hr, hx⟩, -, -⟩ := hS
    obtain ⟨g, cg, gj, cj, rfl, hgB, hgjB, hgs, hgg, hc1, HST⟩ := ho1.at3 (by decide) hr hx
    have HX := Lib.hid hr
    have hm1 : 0 < m.length := (List.getElem?_eq_some_iff.1 hr).1
    have hr1 : 0 < r.length := (List.getElem?_eq_some_iff.1 hx).1
    have hdr : Below w2.heap.size w2 w2.drew := (Below.refl _ _).drew
    have hCd := hC2.keep hdr
    have hfd := ho1.keep hdr
    have hgd := hg.trans (grow_drew w2 1 (some N))
    have hcd : w2.drew.cell? ⟨g, 0, none⟩ = some (.slice (some ⟨gj, 0, none⟩) r.length cj) := cell_keep hdr hc1
    have hcA : (w2.drew.alloc (.cells #[.int .i64 (-1), .int .i64 1000000, .int .i64 1000001, .int .i64 9] 3)).cell? ⟨g, 0, none⟩ = some (.slice (some ⟨gj, 0, none⟩) r.length cj) := cell_keep (below_alloc _ _) hcd
    have hP := Lib.hid (pickI w0 N n v l w2.drew hv hl hCd [-1, 1000000, 1000001, 9] 3 4 rfl (by omega) (by omega) 4)
    have hgN : g ≠ N := by omega
    obtain ⟨mn, hmn⟩ : ∃ k, m.length = k := ⟨_, rfl⟩
    obtain ⟨rn, hrn⟩ : ∃ k, r.length = k := ⟨_, rfl⟩
    rw [hmn] at hm1 ⊢
    rw [hrn] at hr1 hc1 hcd hcA HST
    rw [hmn] at ho1 hfd HST
    clear hr hx
    go_wp2
    go_region_held3 (fun w' => w'.cell? ⟨g, 0, none⟩ = some (.slice (some ⟨gj, 0, none⟩) rn cj))
      (first | assumption | go_keep)
      ((go_at_call 57; refine hP.out.mono ?_; rintro e w5 ⟨y, rfl, _, hC5, hg5⟩; have hc5 : w5.cell? ⟨g, 0, none⟩ = some (.slice (some ⟨gj, 0, none⟩) rn cj) := hg5.cell hcd (fun e => hgN (Option.some.inj e)); obtain ⟨hx5, hf5, HS5⟩ := HST.out w5 hc5 (hfd.grownN hg5 hlt0); have hc6 : (w5.setCell ⟨gj, 0, none⟩ (.int .i64 y)).cell? ⟨g, 0, none⟩ = some (.slice (some ⟨gj, 0, none⟩) rn cj) := by rw [World.cell?_of_block (blk_setCell_other w5 ⟨gj, 0, none⟩ _ g (fun e => hgg e.symm))]; exact hc5))
    go_wp2
    go_ret
    exact ⟨_, _, rfl, HS5 y, smallB_set HS.out 0 0 y, hC5.set (a := ⟨gj, 0, none⟩) (show N < gj by omega) _, growSet (hgd.trans hg5) (a := ⟨gj, 0, none⟩) hgjB _⟩
  · have d1 : ((d : Int) == 0) = false := beq_eq_false_iff_ne.2 (by omega)
    by_cases d2 : d = 1
    · subst d2
      rw [show ((1 : Nat) : Int) = 1 from rfl]
      have hba := below_alloc w2 (.cells #[.int .i64 1] 3)
      have hH := (OwnMat.toH ho1).keep hba
      have hown := ho1.own
      have hu : Own 3 w2.heap.size (w2.alloc (.cells #[.int .i64 1] 3)) (.slice (some ⟨w2.heap.size, 0, none⟩) 1 1) (ints [1]) := World.ownsRow_lit w2 #[.int .i64 1] 1 (Nat.le_refl _) (by simp [maxLen]) rfl
      have hml : m.length ≤ 4000000 := by have := hS.2.1; omega
      obtain ⟨a1, c1, rfl⟩ := ho1.form
      obtain ⟨mn, hmn⟩ : ∃ k, m.length = k := ⟨_, rfl⟩
      rw [hmn] at hH hown ⊢
      clear ho1 hS
      go_wp2_with (at_builtin; refine appMb 24 62 3 Tryz.underlying24 Tryz.infoInts (by decide) hH hu (by omega) hba.size hml rfl _ _ rfl rfl rfl (by simp) ?_)
      intro q' w6 hq6 hg6 hsz6 hblk
      have hC6 := (hC2.keep hba).grown hg6 (fun k hk => by have := (hown k hk).1; omega)
      have hgr : w.grownBy w6 (some N) := growU (hg.trans (growA _ _ _)) hg6 (fun k hk => (hown k hk).1)
      go_wp2
      go_ret
      exact ⟨_, _, rfl, hq6, smallB_app HS.out, hC6, hgr⟩
    · have d3 : ((d : Int) == 1) = false := beq_eq_false_iff_ne.2 (by omega)
      obtain ⟨a1, c1, rfl⟩ := ho1.form
      go_wp2
      go_ret
      exact ⟨_, _, rfl, ho1, HS.out.b, hC2, hg⟩
end Go.Proofs.YtkohadoicebojaaGreatDoor
