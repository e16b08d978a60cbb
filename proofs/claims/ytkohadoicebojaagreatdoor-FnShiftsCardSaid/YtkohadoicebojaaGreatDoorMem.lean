/- Plain facts on memory: what it means that a slice value reads as a list of numbers, of strings, or of rows; and that a call owns a new slice. No statement is proved here. -/
import Derived.WalkKit
import Derived.WalkSpells
import Derived.Deep.Draws
import Derived.Lib.Hide
import Derived.Deep.OwnRows
namespace Go.Proofs.YtkohadoicebojaaGreatDoor
open Go.RowKit

/-- The slice value v reads, in world w, as the cells xs. -/
def Row (w : World) (v : Value) (xs : List Value) : Prop :=
  ∃ a cap, v = .slice a xs.length cap ∧ xs.length ≤ cap ∧ cap ≤ maxLen ∧
    ∀ i (h : i < xs.length), ∃ b off, a = some ⟨b, off, none⟩ ∧ w.cell? ⟨b, off + i, none⟩ = some xs[i]

def ints (l : List Int) : List Value := l.map (Value.int .i64)
theorem ints_length (l : List Int) : (ints l).length = l.length := by simp [ints]
theorem ints_get (l : List Int) (i : Nat) (h : i < (ints l).length) : (ints l)[i] = .int .i64 (l[i]'(by simpa [ints] using h)) := by simp [ints]

/-- v reads as the numbers l. -/
def Ints (w : World) (v : Value) (l : List Int) : Prop := Row w v (ints l)
/-- v reads as the rows m. -/
def Mat (w : World) (v : Value) (m : List (List Int)) : Prop :=
  ∃ vs : List Value, vs.length = m.length ∧ Row w v vs ∧ ∀ i (h : i < m.length) (h' : i < vs.length), Ints w vs[i] m[i]

theorem Row.keep {w w' : World} {v : Value} {xs : List Value} (h : Row w v xs) (hb : Below w.heap.size w w') : Row w' v xs := by
  obtain ⟨a, cap, hv, hl, hm, hc⟩ := h
  refine ⟨a, cap, hv, hl, hm, fun i hi => ?_⟩
  obtain ⟨b, off, ha, hcell⟩ := hc i hi
  exact ⟨b, off, ha, by rw [hb.cell (p := ⟨b, off + i, none⟩) (World.block_lt_of_cell? w _ hcell)]; exact hcell⟩
theorem Ints.keep {w w' : World} {v : Value} {l : List Int} (h : Ints w v l) (hb : Below w.heap.size w w') : Ints w' v l := Row.keep h hb
theorem Mat.keep {w w' : World} {v : Value} {m : List (List Int)} (h : Mat w v m) (hb : Below w.heap.size w w') : Mat w' v m := by
  obtain ⟨vs, hl, hr, hm⟩ := h
  exact ⟨vs, hl, hr.keep hb, fun i h h' => (hm i h h').keep hb⟩
theorem below_drewN (w : World) (n : Nat) : Below w.heap.size w (w.drewN n) := ⟨rfl, rfl, rfl, Nat.le_refl _, fun _ _ => rfl⟩
theorem Row.drewN {w : World} {v : Value} {xs : List Value} (h : Row w v xs) (n : Nat) : Row (w.drewN n) v xs := h.keep (below_drewN w n)
theorem Ints.drewN {w : World} {v : Value} {l : List Int} (h : Ints w v l) (n : Nat) : Ints (w.drewN n) v l := h.keep (below_drewN w n)
theorem Mat.drewN {w : World} {v : Value} {m : List (List Int)} (h : Mat w v m) (n : Nat) : Mat (w.drewN n) v m := h.keep (below_drewN w n)

/-- Opening a row. -/
theorem Row.open {w : World} {v : Value} {xs : List Value} (h : Row w v xs) :
    ∃ a cap, v = .slice a xs.length cap ∧ xs.length ≤ 9223372036854775807 ∧ Hid (∀ i (h : i < xs.length), ∃ b off, a = some ⟨b, off, none⟩ ∧ w.cell? ⟨b, off + i, none⟩ = some xs[i]) := by
  obtain ⟨a, cap, hv, hl, hm, hc⟩ := h
  exact ⟨a, cap, hv, by unfold maxLen at hm; omega, hc⟩
/-- Opening a slice of numbers: its length, and what each cell holds, kept from the walk. -/
theorem Ints.open {w : World} {v : Value} {l : List Int} (h : Ints w v l) :
    ∃ a n cap, v = .slice a n cap ∧ Hid (l.length = n) ∧ n ≤ 9223372036854775807 ∧
      Hid (∀ i, i < n → ∃ b off x, a = some ⟨b, off, none⟩ ∧ w.cell? ⟨b, off + i, none⟩ = some (.int .i64 x) ∧ Hid (l[i]? = some x)) := by
  obtain ⟨a, cap, hv, hm, hc⟩ := Row.open h
  rw [ints_length] at hv hm
  refine ⟨a, l.length, cap, hv, Lib.hid rfl, hm, Lib.hid fun i hi => ?_⟩
  obtain ⟨b, off, ha, hcell⟩ := hc.out i (by rw [ints_length]; exact hi)
  rw [ints_get] at hcell
  exact ⟨b, off, _, ha, hcell, Lib.hid (List.getElem?_eq_getElem _)⟩
theorem Mat.open {w : World} {v : Value} {m : List (List Int)} (h : Mat w v m) :
    ∃ a n cap, v = .slice a n cap ∧ Hid (m.length = n) ∧ n ≤ 9223372036854775807 ∧
      Hid (∀ i, i < n → ∃ b off u r, a = some ⟨b, off, none⟩ ∧ w.cell? ⟨b, off + i, none⟩ = some u ∧ Hid (m[i]? = some r) ∧ Ints w u r) := by
  obtain ⟨vs, hl, hr, hm⟩ := h
  obtain ⟨a, cap, hv, hmx, hc⟩ := Row.open hr
  rw [hl] at hv hmx
  refine ⟨a, m.length, cap, hv, Lib.hid rfl, hmx, Lib.hid fun i hi => ?_⟩
  obtain ⟨b, off, ha, hcell⟩ := hc.out i (by omega)
  exact ⟨b, off, _, _, ha, hcell, Lib.hid (List.getElem?_eq_getElem hi), hm i hi (by omega)⟩

/-- The call owns, from block B on, the slice v of the cells xs, of element type e. -/
def Own (e : TypeId) (B : Nat) (w : World) (v : Value) (xs : List Value) : Prop := w.ownsRow B e 1 v xs.length xs

theorem Own.row {e : TypeId} {B : Nat} {w : World} {v : Value} {xs : List Value} (h : Own e B w v xs) : Row w v xs := by
  obtain ⟨_, ⟨rfl, hn⟩ | ⟨g, cap, cur, rfl, hB, hg, hnc, hcm, hcs, ht⟩⟩ := h
  · exact ⟨none, 0, by rw [hn], by omega, by simp [maxLen], fun i hi => by omega⟩
  · refine ⟨_, cap, rfl, hnc, hcm, fun i hi => ⟨g, 0, rfl, ?_⟩⟩
    have hx : (cur.toList.take (xs.length * 1))[i]? = some xs[i] := by rw [ht]; exact List.getElem?_eq_getElem hi
    rw [List.getElem?_take, if_pos (by omega)] at hx
    rw [Nat.zero_add, cell_of_row w g i cur e (0, 0) hg]
    simpa using hx


theorem Own.of_rowIs {e : TypeId} {B b n : Nat} {w : World} {f : Nat → Value} {xs : List Value} (h : w.rowIs b e n f) (hB : B ≤ b) (hn : xs.length = n) (hm : n ≤ maxLen)
    (hf : ∀ i, i < n → xs[i]? = some (f i)) : Own e B w (.slice (some ⟨b, 0, none⟩) n n) xs := by
  obtain ⟨c, hb, hc, hi⟩ := h
  refine ⟨by simp, .inr ⟨b, n, c, by rw [hn], hB, hb, by omega, hm, by omega, ?_⟩⟩
  apply List.ext_getElem?
  intro i
  rw [List.getElem?_take]
  split
  · rename_i hlt
    rw [hf i (by omega), ← hi i (by omega)]
    simp
  · rw [List.getElem?_eq_none (by omega)]

theorem Own.keep {e : TypeId} {B : Nat} {w w' : World} {v : Value} {xs : List Value} (h : Own e B w v xs) (hb : Below w.heap.size w w') : Own e B w' v xs := by
  obtain ⟨h1, h2 | ⟨g, cap, cur, hv, hg, hh, r⟩⟩ := h
  · exact ⟨h1, .inl h2⟩
  · exact ⟨h1, .inr ⟨g, cap, cur, hv, hg, by rw [hb.block g (Array.getElem?_eq_some_iff.1 hh).1]; exact hh, r⟩⟩
theorem Own.mono {e : TypeId} {B B' : Nat} {w : World} {v : Value} {xs : List Value} (h : Own e B w v xs) (hb : B' ≤ B) : Own e B' w v xs := by
  obtain ⟨h1, h2 | ⟨g, cap, cur, hv, hg, r⟩⟩ := h
  · exact ⟨h1, .inl h2⟩
  · exact ⟨h1, .inr ⟨g, cap, cur, hv, by omega, r⟩⟩

theorem dd (w : World) (d n : Nat) : ∃ m, (w.drewN d).drewN n = w.drewN m := ⟨_, World.drewN_drewN _ _ _⟩
theorem ints_get? (l : List Int) (i : Nat) : (ints l)[i]? = l[i]?.map (Value.int .i64) := by simp [ints]
/-- A row that is being filled: cell i holds l's number where i < j, 0 elsewhere. -/
def fillI (l : List Int) (j : Nat) (i : Nat) : Value := .int .i64 (if i < j then l.getD i 0 else 0)
theorem fillI_step {l : List Int} {j : Nat} {x : Int} (hx : l[j]? = some x) (i : Nat) : (if i = j then Value.int .i64 x else fillI l j i) = fillI l (j + 1) i := by
  unfold fillI
  by_cases h : i = j
  · subst h; simp [hx]
  · rw [if_neg h]
    by_cases h2 : i < j
    · rw [if_pos h2, if_pos (by omega)]
    · rw [if_neg h2, if_neg (by omega)]
theorem fillI_done {l : List Int} {n j : Nat} (hl : l.length = n) (hj : ¬ j < n) (i : Nat) (hi : i < n) : (ints l)[i]? = some (fillI l j i) := by
  rw [ints_get?, fillI, if_pos (by omega)]
  simp [List.getD, List.getElem?_eq_getElem (show i < l.length by omega)]

/-- Two slice values own different blocks. -/
def Apart (x y : Value) : Prop := x.ownBlock = none ∨ x.ownBlock ≠ y.ownBlock
/-- The call owns, from block B on, the rows vs, which hold the numbers m; no two share a block. -/
def OwnRows (ti : TypeId) (B : Nat) (w : World) (vs : List Value) (m : List (List Int)) : Prop :=
  vs.length = m.length ∧ (∀ i (h : i < vs.length) (h' : i < m.length), Own ti B w vs[i] (ints m[i])) ∧ vs.Pairwise Apart
/-- The call owns, from block B on, the slice of rows v, which holds m. -/
def OwnMat (tr ti : TypeId) (B : Nat) (w : World) (v : Value) (m : List (List Int)) : Prop :=
  ∃ vs, Own tr B w v vs ∧ OwnRows ti B w vs m
theorem OwnRows.nil (ti : TypeId) (B : Nat) (w : World) : OwnRows ti B w [] [] := ⟨rfl, fun i h => by simp at h, List.Pairwise.nil⟩
theorem OwnRows.keep {ti : TypeId} {B : Nat} {w w' : World} {vs : List Value} {m : List (List Int)} (h : OwnRows ti B w vs m) (hb : Below w.heap.size w w') : OwnRows ti B w' vs m :=
  ⟨h.1, fun i h1 h2 => (h.2.1 i h1 h2).keep hb, h.2.2⟩
theorem OwnRows.mono {ti : TypeId} {B B' : Nat} {w : World} {vs : List Value} {m : List (List Int)} (h : OwnRows ti B w vs m) (hb : B' ≤ B) : OwnRows ti B' w vs m :=
  ⟨h.1, fun i h1 h2 => (h.2.1 i h1 h2).mono hb, h.2.2⟩
theorem Own.lt {e : TypeId} {B : Nat} {w : World} {v : Value} {xs : List Value} (h : Own e B w v xs) : ∀ k, v.ownBlock = some k → B ≤ k ∧ k < w.heap.size := World.ownsRow.lt h
theorem OwnRows.lt {ti : TypeId} {B : Nat} {w : World} {vs : List Value} {m : List (List Int)} (h : OwnRows ti B w vs m) : ∀ u ∈ vs, ∀ k, u.ownBlock = some k → B ≤ k ∧ k < w.heap.size := by
  intro u hu k hk
  obtain ⟨i, hi, rfl⟩ := List.mem_iff_getElem.1 hu
  exact (h.2.1 i hi (by have := h.1; omega)).lt k hk
/-- One row more, which lies behind all of the others. -/
theorem OwnRows.snoc {ti : TypeId} {B C : Nat} {w : World} {vs : List Value} {m : List (List Int)} {v : Value} {l : List Int} (h : OwnRows ti B w vs m) (hlt : ∀ u ∈ vs, ∀ k, u.ownBlock = some k → k < C)
    (hv : Own ti C w v (ints l)) (hC : B ≤ C) : OwnRows ti B w (vs ++ [v]) (m ++ [l]) := by
  refine ⟨by simp [h.1], fun i h1 h2 => ?_, ?_⟩
  · by_cases hi : i < vs.length
    · have hi' : i < m.length := by have := h.1; omega
      rw [List.getElem_append_left hi, List.getElem_append_left hi']
      exact h.2.1 i hi hi'
    · have e1 : i = vs.length := by simp at h1; omega
      have e2 : i = m.length := by have := h.1; omega
      rw [List.getElem_append_right (by omega), List.getElem_append_right (by omega)]
      simp only [List.getElem_singleton]
      exact hv.mono hC
  · rw [List.pairwise_append]
    refine ⟨h.2.2, List.pairwise_singleton _ _, fun a ha b hb => ?_⟩
    simp only [List.mem_singleton] at hb
    subst hb
    unfold Apart
    cases e : a.ownBlock with
    | none => exact .inl rfl
    | some k =>
      refine .inr fun hk => ?_
      have h1 := hlt a ha k e
      have h2 := (hv.lt k hk.symm).1
      omega
theorem Own.setCell_below {e : TypeId} {B : Nat} {w : World} {v : Value} {xs : List Value} (h : Own e B w v xs) {a : Addr} (ha : a.block < B) (u : Value) : Own e B (w.setCell a u) v xs := ownsRow_setCell_below h ha u
theorem OwnRows.setCell_below {ti : TypeId} {B : Nat} {w : World} {vs : List Value} {m : List (List Int)} (h : OwnRows ti B w vs m) {a : Addr} (ha : a.block < B) (u : Value) : OwnRows ti B (w.setCell a u) vs m :=
  ⟨h.1, fun i h1 h2 => (h.2.1 i h1 h2).setCell_below ha u, h.2.2⟩
theorem OwnMat.keep {tr ti : TypeId} {B : Nat} {w w' : World} {v : Value} {m : List (List Int)} (h : OwnMat tr ti B w v m) (hb : Below w.heap.size w w') : OwnMat tr ti B w' v m :=
  let ⟨vs, h1, h2⟩ := h; ⟨vs, h1.keep hb, h2.keep hb⟩
theorem OwnMat.mono {tr ti : TypeId} {B B' : Nat} {w : World} {v : Value} {m : List (List Int)} (h : OwnMat tr ti B w v m) (hb : B' ≤ B) : OwnMat tr ti B' w v m :=
  let ⟨vs, h1, h2⟩ := h; ⟨vs, h1.mono hb, h2.mono hb⟩
theorem OwnMat.mat {tr ti : TypeId} {B : Nat} {w : World} {v : Value} {m : List (List Int)} (h : OwnMat tr ti B w v m) : Mat w v m :=
  let ⟨vs, h1, h2⟩ := h; ⟨vs, h2.1, h1.row, fun i hi hi' => (h2.2.1 i hi' hi).row⟩
theorem Own.toInts {e : TypeId} {B : Nat} {w : World} {v : Value} {l : List Int} (h : Own e B w v (ints l)) : Ints w v l := h.row
/-- A row of values that is being filled. -/
def fillV (vs : List Value) (z : Value) (i : Nat) : Value := vs.getD i z
theorem fillV_step (vs : List Value) (z u : Value) (i : Nat) : (if i = vs.length then u else fillV vs z i) = fillV (vs ++ [u]) z i := by
  unfold fillV
  by_cases h : i = vs.length
  · subst h; simp
  · rw [if_neg h]
    by_cases h2 : i < vs.length
    · simp [List.getD, List.getElem?_append_left h2]
    · simp [List.getD, List.getElem?_eq_none (show (vs ++ [u]).length ≤ i by simp; omega), List.getElem?_eq_none (show vs.length ≤ i by omega)]
theorem fillV_done (vs : List Value) (z : Value) (i : Nat) (h : i < vs.length) : vs[i]? = some (fillV vs z i) := by simp [fillV, List.getD, List.getElem?_eq_getElem h]
/-- A reading, moved into the next world. -/
theorem cell_keep {w w' : World} (hb : Below w.heap.size w w') {p : Addr} {u : Value} (h : w.cell? p = some u) : w'.cell? p = some u := by
  rw [hb.cell (World.block_lt_of_cell? w p h)]; exact h

/-- Nothing but draws from the tape. -/
def Drawn (w w' : World) : Prop := ∃ n, w' = w.drewN n
theorem Drawn.refl (w : World) : Drawn w w := ⟨0, rfl⟩
theorem Drawn.drewN {w w' : World} (h : Drawn w w') (n : Nat) : Drawn w (w'.drewN n) := by
  obtain ⟨m, rfl⟩ := h; exact dd _ _ _
theorem Drawn.trans {a b c : World} (h : Drawn a b) (k : Drawn b c) : Drawn a c := by
  obtain ⟨m, rfl⟩ := h; obtain ⟨n, rfl⟩ := k; exact dd _ _ _
theorem Drawn.below {w w' : World} (h : Drawn w w') (B : Nat) : Below B w w' := by
  obtain ⟨m, rfl⟩ := h; exact ⟨rfl, rfl, rfl, Nat.le_refl _, fun _ _ => rfl⟩
theorem Drawn.cell {w w' : World} (h : Drawn w w') {p : Addr} {u : Value} (hc : w.cell? p = some u) : w'.cell? p = some u := by
  obtain ⟨m, rfl⟩ := h; exact hc
theorem Drawn.heap {w w' : World} (h : Drawn w w') : w'.heap = w.heap := by
  obtain ⟨m, rfl⟩ := h; rfl
theorem Drawn.one (w : World) (n : Nat) : Drawn w (w.drewN n) := ⟨n, rfl⟩
theorem Own.form {e : TypeId} {B : Nat} {w : World} {v : Value} {xs : List Value} {n : Nat} (h : Own e B w v xs) (hn : xs.length = n) : ∃ a cap, v = .slice a n cap := by
  obtain ⟨_, ⟨rfl, h0⟩ | ⟨g, cap, cur, rfl, _⟩⟩ := h
  · exact ⟨none, 0, by rw [← hn, h0]⟩
  · exact ⟨_, _, by rw [hn]⟩
theorem Own.formI {e : TypeId} {B : Nat} {w : World} {v : Value} {l : List Int} (h : Own e B w v (ints l)) : ∃ a n cap, v = .slice a n cap := by
  obtain ⟨a, c, h⟩ := h.form rfl; exact ⟨a, _, c, h⟩

theorem below_alloc (w : World) (o : Obj) : Below w.heap.size w (w.alloc o) := (Below.refl _ _).alloc (Nat.le_refl _) o
end Go.Proofs.YtkohadoicebojaaGreatDoor
