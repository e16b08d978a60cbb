/- Square tables as functions of two indices; owned tables that are read and written cell by cell; marks. No statement is proved here. -/
import Derived.Test.YtkohadoicebojaaGreatDoorApp
import Derived.Test.YtkohadoicebojaaGreatDoorPure
namespace Go.Proofs.YtkohadoicebojaaGreatDoor
open Go.RowKit Go.Deep

def rowF (n : Nat) (g : Nat → Int) : List Int := (List.range n).map g
def tabF (k n : Nat) (f : Nat → Nat → Int) : List (List Int) := (List.range k).map fun i => rowF n (f i)
def ent (m : List (List Int)) (i j : Nat) : Int := (m.getD i []).getD j 0
theorem rowF_length (n : Nat) (g : Nat → Int) : (rowF n g).length = n := by simp [rowF]
theorem tabF_length (k n : Nat) (f : Nat → Nat → Int) : (tabF k n f).length = k := by simp [tabF]
theorem rowF_succ (n : Nat) (g : Nat → Int) : rowF (n + 1) g = rowF n g ++ [g n] := by simp [rowF, List.range_succ]
theorem tabF_succ (k n : Nat) (f : Nat → Nat → Int) : tabF (k + 1) n f = tabF k n f ++ [rowF n (f k)] := by simp [tabF, List.range_succ]
theorem rowF_get {n i : Nat} {g : Nat → Int} (h : i < n) : (rowF n g)[i]? = some (g i) := by simp [rowF, h]
theorem tabF_get {k n i : Nat} {f : Nat → Nat → Int} (h : i < k) : (tabF k n f)[i]? = some (rowF n (f i)) := by simp [tabF, h]
theorem rowF_congr {n : Nat} {g g' : Nat → Int} (h : ∀ i, i < n → g i = g' i) : rowF n g = rowF n g' := by
  unfold rowF; exact List.map_congr_left fun i hi => h i (List.mem_range.1 hi)
theorem tabF_congr {k n : Nat} {f f' : Nat → Nat → Int} (h : ∀ i j, i < k → j < n → f i j = f' i j) : tabF k n f = tabF k n f' := by
  unfold tabF; exact List.map_congr_left fun i hi => rowF_congr fun j hj => h i j (List.mem_range.1 hi) hj
theorem ent_of {m : List (List Int)} {i j : Nat} {r : List Int} {x : Int} (hr : m[i]? = some r) (hx : r[j]? = some x) : ent m i j = x := by simp [ent, hr, hx]
theorem ent_tabF {k n i j : Nat} {f : Nat → Nat → Int} (hi : i < k) (hj : j < n) : ent (tabF k n f) i j = f i j := ent_of (tabF_get hi) (rowF_get hj)
theorem row_eq {r : List Int} {n : Nat} (h : r.length = n) : r = rowF n (fun j => r.getD j 0) := by
  subst h
  apply List.ext_getElem?
  intro i
  by_cases hi : i < r.length
  · rw [rowF_get hi]; simp [List.getElem?_eq_getElem hi]
  · rw [List.getElem?_eq_none (by omega), List.getElem?_eq_none (by rw [rowF_length]; omega)]
theorem tab_eq {m : List (List Int)} {n : Nat} (h : ∀ (i : Nat) (r : List Int), m[i]? = some r → r.length = n) : m = tabF m.length n (ent m) := by
  apply List.ext_getElem?
  intro i
  by_cases hi : i < m.length
  · rw [tabF_get hi]
    have hr := List.getElem?_eq_getElem hi
    rw [hr, Option.some.injEq, row_eq (h i _ hr)]
    apply rowF_congr
    intro j _
    simp [ent, hr]
  · rw [List.getElem?_eq_none (by omega), List.getElem?_eq_none (by rw [tabF_length]; omega)]
theorem isMat_tab {m : List (List Int)} (h : isMat m = true) : m = tabF m.length m.length (ent m) := tab_eq fun _ _ hr => isMat_row h hr
theorem isMat_ent {m : List (List Int)} (h : isMat m = true) {i j : Nat} (hi : i < m.length) (hj : j < m.length) : 0 ≤ ent m i j ∧ ent m i j ≤ 1000000 := by
  have hr := List.getElem?_eq_getElem hi
  have hl := isMat_row h hr
  have hx : (m[i])[j]? = some ((m[i])[j]'(by omega)) := List.getElem?_eq_getElem _
  rw [ent_of hr hx]
  exact isMat_num h hr hx
/-- A table with one number put in. -/
def setAt (m : List (List Int)) (i j : Nat) (y : Int) : List (List Int) := m.set i ((m.getD i []).set j y)
theorem setAt_tabF (k n i j : Nat) (f : Nat → Nat → Int) (y : Int) (hi : i < k) : setAt (tabF k n f) i j y = tabF k n (fun a b => if a = i ∧ b = j then y else f a b) := by
  unfold setAt
  have h0 : (tabF k n f).getD i [] = rowF n (f i) := by simp [tabF_get hi]
  rw [h0]
  apply List.ext_getElem?
  intro a
  rw [List.getElem?_set]
  by_cases ha : a < k
  · by_cases e : i = a
    · subst e
      rw [if_pos rfl, if_pos (by rw [tabF_length]; exact ha), tabF_get ha, Option.some.injEq]
      apply List.ext_getElem?
      intro b
      rw [List.getElem?_set]
      by_cases hb : b < n
      · by_cases e2 : j = b
        · subst e2; rw [if_pos rfl, if_pos (by rw [rowF_length]; exact hb), rowF_get hb, if_pos ⟨rfl, rfl⟩]
        · rw [if_neg e2, rowF_get hb, rowF_get hb, if_neg (fun h => e2 h.2.symm)]
      · have e3 : (rowF n (f i))[b]? = none := List.getElem?_eq_none (by rw [rowF_length]; omega)
        have e4 : (rowF n (fun b => if i = i ∧ b = j then y else f i b))[b]? = none := List.getElem?_eq_none (by rw [rowF_length]; omega)
        rw [e3, e4]
        split
        · rw [if_neg (by rw [rowF_length]; omega)]
        · rfl
    · rw [if_neg e, tabF_get ha, tabF_get ha, Option.some.injEq]
      apply rowF_congr
      intro b _
      rw [if_neg (fun h => e h.1.symm)]
  · rw [if_neg (by omega), List.getElem?_eq_none (by rw [tabF_length]; omega), List.getElem?_eq_none (by rw [tabF_length]; omega)]

/-- A cell of an owned slice: that it is there, is not frozen, and what a store into it leaves. -/
theorem Own.at {e : TypeId} {B : Nat} {w : World} {v : Value} {xs : List Value} (h : Own e B w v xs) {j : Nat} {x : Value} (hj : xs[j]? = some x) :
    ∃ g cap, v = .slice (some ⟨g, 0, none⟩) xs.length cap ∧ B ≤ g ∧ w.cell? ⟨g, j, none⟩ = some x ∧ w.frozen? ⟨g, j, none⟩ = false ∧
      ∀ u, Own e B (w.setCell ⟨g, j, none⟩ u) v (xs.set j u) ∧ w.grownBy (w.setCell ⟨g, j, none⟩ u) (some g) := by
  have hl := (List.getElem?_eq_some_iff.1 hj).1
  have h0 := h
  obtain ⟨_, ⟨_, h1⟩ | ⟨g, cap, cur, rfl, hB, _⟩⟩ := h
  · omega
  · refine ⟨g, cap, rfl, hB, ?_, World.ownsRow.frozenAt h0 j, fun u => ?_⟩
    · rw [World.ownsRow.cellAt h0 j (by omega)]; exact hj
    · have := World.ownsRow.stored h0 j u
      exact ⟨by unfold Own; rw [List.length_set]; exact this.1, this.2⟩
theorem ints_set (l : List Int) (j : Nat) (y : Int) : (ints l).set j (.int .i64 y) = ints (l.set j y) := by simp [ints, List.map_set]

/-- As OwnMat, all blocks below H. -/
def OwnMatH (tr ti : TypeId) (B H : Nat) (w : World) (v : Value) (m : List (List Int)) : Prop :=
  ∃ vs, Own tr B w v vs ∧ OwnRows ti B w vs m ∧ (∀ k, v.ownBlock = some k → k < H) ∧ ∀ u ∈ vs, ∀ k, u.ownBlock = some k → k < H
theorem OwnMat.toH {tr ti : TypeId} {B : Nat} {w : World} {v : Value} {m : List (List Int)} (h : OwnMat tr ti B w v m) : OwnMatH tr ti B w.heap.size w v m :=
  let ⟨vs, h1, h2⟩ := h; ⟨vs, h1, h2, fun k hk => (h1.lt k hk).2, fun u hu k hk => (h2.lt u hu k hk).2⟩
theorem OwnMatH.toM {tr ti : TypeId} {B H : Nat} {w : World} {v : Value} {m : List (List Int)} (h : OwnMatH tr ti B H w v m) : OwnMat tr ti B w v m :=
  let ⟨vs, h1, h2, _⟩ := h; ⟨vs, h1, h2⟩
theorem OwnMatH.mat {tr ti : TypeId} {B H : Nat} {w : World} {v : Value} {m : List (List Int)} (h : OwnMatH tr ti B H w v m) : Mat w v m := h.toM.mat
theorem OwnMatH.keep {tr ti : TypeId} {B H : Nat} {w w' : World} {v : Value} {m : List (List Int)} (h : OwnMatH tr ti B H w v m) (hb : Below w.heap.size w w') : OwnMatH tr ti B H w' v m :=
  let ⟨vs, h1, h2, h3, h4⟩ := h; ⟨vs, h1.keep hb, h2.keep hb, h3, h4⟩
/-- Only blocks from B on and below H have turned. -/
structure Chg (B H : Nat) (w w' : World) : Prop where
  os : w'.os = w.os
  tape : w'.tape = w.tape
  output : w'.output = w.output
  size : w'.heap.size = w.heap.size
  block : ∀ k, k < w.heap.size → (k < B ∨ H ≤ k) → w'.heap[k]? = w.heap[k]?
theorem Chg.refl (B H : Nat) (w : World) : Chg B H w w := ⟨rfl, rfl, rfl, rfl, fun _ _ _ => rfl⟩
theorem Chg.trans {B H : Nat} {a b c : World} (h : Chg B H a b) (k : Chg B H b c) : Chg B H a c :=
  ⟨k.os.trans h.os, k.tape.trans h.tape, k.output.trans h.output, k.size.trans h.size, fun i hi hs => (k.block i (by rw [h.size]; exact hi) hs).trans (h.block i hi hs)⟩
theorem Chg.below {B H C : Nat} {w w' : World} (h : Chg B H w w') (hC : C ≤ B) (hs : C ≤ w.heap.size) : Below C w w' :=
  ⟨h.os, h.tape, h.output, by rw [h.size]; exact Nat.le_refl _, fun k hk => h.block k (by omega) (.inl (by omega))⟩
theorem Own.chg {e : TypeId} {B B' H' : Nat} {w w' : World} {v : Value} {xs : List Value} (h : Own e B w v xs) (hc : Chg B' H' w w') (hne : ∀ k, v.ownBlock = some k → k < B' ∨ H' ≤ k) : Own e B w' v xs := by
  obtain ⟨h1, h2 | ⟨g, cap, cur, hv, hg, hh, r⟩⟩ := h
  · exact ⟨h1, .inl h2⟩
  · exact ⟨h1, .inr ⟨g, cap, cur, hv, hg, by rw [hc.block g (Array.getElem?_eq_some_iff.1 hh).1 (hne g (by rw [hv]; rfl))]; exact hh, r⟩⟩
theorem OwnMatH.chg {tr ti : TypeId} {B H B' H' : Nat} {w w' : World} {v : Value} {m : List (List Int)} (h : OwnMatH tr ti B H w v m) (hc : Chg B' H' w w') (hd : H ≤ B' ∨ H' ≤ B) : OwnMatH tr ti B H w' v m := by
  obtain ⟨vs, h1, h2, h3, h4⟩ := h
  refine ⟨vs, h1.chg hc fun k hk => ?_, ⟨h2.1, fun i hi hi' => (h2.2.1 i hi hi').chg hc fun k hk => ?_, h2.2.2⟩, h3, h4⟩
  · have := h3 k hk; have := (h1.lt k hk).1; omega
  · have a := h4 _ (List.getElem_mem hi) k hk; have := ((h2.2.1 i hi hi').lt k hk).1; omega
/-- The marks from k on. -/
def marks (k : Int) (n : Nat) : List Int := rowF n fun i => k + i
def marksM (k : Int) : List (List Int) → List (List Int)
  | [] => []
  | r :: m => marks k r.length :: marksM (k + r.length) m
theorem marks_length (k : Int) (n : Nat) : (marks k n).length = n := rowF_length _ _
def markTo (k : Int) (l : List Int) (j : Nat) : List Int := marks k j ++ l.drop j
theorem markTo_length (k : Int) (l : List Int) (j : Nat) (h : j ≤ l.length) : (markTo k l j).length = l.length := by simp [markTo, marks_length]; omega
theorem markTo_zero (k : Int) (l : List Int) : markTo k l 0 = l := by simp [markTo, marks, rowF]
theorem markTo_all (k : Int) (l : List Int) : markTo k l l.length = marks k l.length := by simp [markTo]
theorem markTo_get (k : Int) {l : List Int} {j : Nat} (h : j < l.length) : ∃ x, (markTo k l j)[j]? = some x := ⟨_, List.getElem?_eq_getElem (by rw [markTo_length k l j (by omega)]; exact h)⟩
theorem drop_set0 {α : Type} {l : List α} {j : Nat} (h : j < l.length) (y : α) : (l.drop j).set 0 y = y :: l.drop (j + 1) := by
  rw [List.drop_eq_getElem_cons h]; rfl
theorem markTo_step (k : Int) {l : List Int} {j : Nat} (h : j < l.length) : (markTo k l j).set j (k + j) = markTo k l (j + 1) := by
  unfold markTo
  rw [List.set_append_right _ _ (by rw [marks_length]; exact Nat.le_refl _), marks_length, Nat.sub_self, drop_set0 h]
  simp [marks, rowF_succ]
theorem marksM_length (k : Int) (m : List (List Int)) : (marksM k m).length = m.length := by
  induction m generalizing k with
  | nil => rfl
  | cons r m ih => simp [marksM, ih]
theorem marksM_get (m : List (List Int)) : ∀ (k : Int) (j : Nat) (r : List Int), m[j]? = some r → (marksM k m)[j]? = some (marks (k + total (m.take j)) r.length) := by
  induction m with
  | nil => intro k j r h; simp at h
  | cons a m ih =>
    intro k j r h
    cases j with
    | zero => simp at h; subst h; simp [marksM, total]
    | succ j =>
      simp only [List.getElem?_cons_succ] at h
      simp only [marksM, List.getElem?_cons_succ, ih _ _ _ h, total, List.take_succ_cons, List.map_cons, List.sum_cons]
      congr 2; omega
theorem marksM_take_step {m : List (List Int)} {k : Int} {j : Nat} {r : List Int} (h : m[j]? = some r) :
    (((marksM k m).take j ++ m.drop j).set j (marks (k + total (m.take j)) r.length)) = (marksM k m).take (j + 1) ++ m.drop (j + 1) := by
  have hl := (List.getElem?_eq_some_iff.1 h).1
  have hl2 : ((marksM k m).take j).length = j := by rw [List.length_take, marksM_length]; omega
  rw [List.set_append_right _ _ (by omega), hl2, Nat.sub_self, drop_set0 hl, take_snoc (marksM_get m k j r h)]
  simp
/-- One row of an owned table of rows, written. -/
theorem OwnMatH.row {tr ti : TypeId} {B H : Nat} {w : World} {v : Value} {m : List (List Int)} (h : OwnMatH tr ti B H w v m) {j : Nat} {r : List Int} (hj : m[j]? = some r) :
    ∃ g cap u, v = .slice (some ⟨g, 0, none⟩) m.length cap ∧ w.cell? ⟨g, j, none⟩ = some u ∧ Own ti B w u (ints r) ∧ (∀ k, u.ownBlock = some k → k < H) ∧
      ∀ w' r', w.grownBy w' u.ownBlock → Own ti B w' u (ints r') → ti ≠ tr → OwnMatH tr ti B H w' v (m.set j r') := by
  obtain ⟨vs, h1, h2, h3, h4⟩ := h
  have hl := (List.getElem?_eq_some_iff.1 hj).1
  have hl2 : j < vs.length := by rw [h2.1]; exact hl
  have hu := List.getElem?_eq_getElem hl2
  obtain ⟨g, cap, rfl, hB, hc, hf, hs⟩ := h1.at hu
  have hr := h2.2.1 j hl2 hl
  rw [(List.getElem?_eq_some_iff.1 hj).2] at hr
  refine ⟨g, cap, vs[j], by rw [h2.1], hc, hr, h4 _ (List.getElem_mem hl2), fun w' r' hg hw hne => ?_⟩
  refine ⟨vs, h1.grown hg ?_, ⟨by rw [List.length_set]; exact h2.1, fun i hi hi' => ?_, h2.2.2⟩, h3, h4⟩
  · rcases hr.other h1 hne with e | e
    · right; rw [e]; simp [Value.ownBlock]
    · right; exact fun h => e h.symm
  · rw [List.length_set] at hi'
    by_cases e : j = i
    · subst e; simpa using hw
    · rw [List.getElem_set_ne e]
      refine (h2.2.1 i hi hi').grown hg ?_
      have hp := List.pairwise_iff_getElem.1 h2.2.2
      rcases Nat.lt_or_ge i j with hlt | hge
      · exact hp i j hi hl2 hlt
      · rcases hp j i hl2 hi (by omega) with h | h
        · cases e2 : (vs[i]).ownBlock with
          | none => exact .inl rfl
          | some q => right; rw [h]; simp
        · right; exact fun h' => h h'.symm
theorem Own.one {e : TypeId} {B : Nat} {w : World} {v : Value} {xs : List Value} (h : Own e B w v xs) : v.oneCell' = true := by
  obtain ⟨a, c, rfl⟩ := h.form rfl; rfl
theorem OwnMatH.grow {tr ti : TypeId} {B C : Nat} {w w' : World} {v v' u : Value} {m : List (List Int)} {l : List Int} {vs : List Value} (h1 : Own tr B w v vs) (h2 : OwnRows ti B w vs m) (h4 : ∀ u ∈ vs, ∀ k, u.ownBlock = some k → k < C)
    (hu : Own ti C w u (ints l)) (hBC : B ≤ C) (hne : ti ≠ tr) (hv : Own tr B w' v' (vs ++ [u])) (hg : w.grownBy w' v.ownBlock) : OwnMat tr ti B w' v' (m ++ [l]) :=
  ⟨_, hv, (h2.snoc h4 hu hBC).grown h1 hne hg⟩
/-- 'out = append(out, row)': out an owned table of rows, row an owned slice of numbers that was made later than all of out's rows. -/
theorem appM {P : Program} {wr : World} {ops : Array Oper} {rest : List Oper} {o : Oper} {a : Act} {Q : Exit → Act → World → Prop} (t tr ti : TypeId) (ht : P.underlying t = some (.slice tr))
    (hinfo : (P.info? tr).map (fun i => (i.zero, i.size, i.bytes)) = some (some (.slice none 0 0), 1, 24)) (hne : ti ≠ tr) {B C : Nat} {v u : Value} {m : List (List Int)} {l : List Int} (hH : OwnMatH tr ti B C wr v m) (hu : Own ti C wr u (ints l))
    (hBC : B ≤ C) (hCw : C ≤ wr.heap.size) (hlen : m.length ≤ 4000000) (hgd : o.guard = none) (s x : Operand)
    (ho : o.op = .call { callee := .builtin .append, args := #[s, x], argTypes := #[t, t] }) (hs : a.eval s = v) {N : Nat} (hx : a.eval x = .slice (some ⟨N, 0, none⟩) 1 1) (hN : N = wr.heap.size)
    (K : ∀ v' w', OwnMat tr ti B w' v' (m ++ [l]) → wr.grownBy w' v.ownBlock → wr.heap.size + 1 ≤ w'.heap.size → wpList P ops Q rest (a.put o.dst v') w') :
    wpList P ops Q (o :: rest) a (wr.alloc (.cells #[u] tr)) := by
  obtain ⟨vs, h1, h2, h3, h4⟩ := hH
  have hl := h2.1
  refine app1 t tr 24 (.slice none 0 0) ht hinfo rfl h1 u hu.one (by unfold maxLen; omega) (by omega) (by omega) hgd s x ho hs hx hN fun v' w' h5 h6 h7 => K v' w' (OwnMatH.grow h1 h2 h4 hu hBC hne h5 h6) h6 h7
theorem OwnMat.empty (tr ti : TypeId) (w : World) : OwnMat tr ti w.heap.size (w.alloc (.cells #[] tr)) (.slice (some ⟨w.heap.size, 0, none⟩) 0 0) [] := ⟨[], Own.empty tr w, OwnRows.nil ti _ _⟩
theorem OwnMat.nil (tr ti : TypeId) (B : Nat) (w : World) : OwnMat tr ti B w (.slice none 0 0) [] := ⟨[], Own.nil tr B w, OwnRows.nil ti _ _⟩
theorem OwnMat.own {tr ti : TypeId} {B : Nat} {w : World} {v : Value} {m : List (List Int)} (h : OwnMat tr ti B w v m) : ∀ k, v.ownBlock = some k → B ≤ k ∧ k < w.heap.size :=
  let ⟨_, h1, _⟩ := h; h1.lt
theorem OwnMat.form {tr ti : TypeId} {B : Nat} {w : World} {v : Value} {m : List (List Int)} (h : OwnMat tr ti B w v m) : ∃ a cap, v = .slice a m.length cap := by
  obtain ⟨vs, h1, h2⟩ := h
  obtain ⟨a, c, e⟩ := h1.form h2.1
  exact ⟨a, c, e⟩
theorem grow_below {w w' : World} {v : Value} {B C : Nat} (hg : w.grownBy w' v.ownBlock) (hv : ∀ k, v.ownBlock = some k → B ≤ k) (hC : C ≤ B) (hs : C ≤ w.heap.size) : Below C w w' :=
  (Below.refl C w).grown hg hs fun k hk => by have := hv k hk; omega
/-- A new row of zeros. -/
theorem Own.zeros (ti : TypeId) (w : World) (n : Nat) (hn : n ≤ 4000000) : Own ti w.heap.size (w.alloc (.cells (madeCells #[.int .i64 0] n) ti)) (.slice (some ⟨w.heap.size, 0, none⟩) n n) (ints (rowF n fun _ => 0)) :=
  Own.of_rowIs (World.rowIs_made _ _ _ _) (Nat.le_refl _) (by rw [ints_length, rowF_length]) (by unfold maxLen; omega) (fun i hi => by rw [ints_get?, rowF_get hi]; rfl)
/-- A number of an owned table: its cell, and what a store into it leaves. -/
theorem OwnMat.at2 {tr ti : TypeId} {B : Nat} {w : World} {v : Value} {m : List (List Int)} (h : OwnMat tr ti B w v m) (hne : ti ≠ tr) {i j : Nat} {r : List Int} {x : Int} (hr : m[i]? = some r) (hx : r[j]? = some x) :
    ∃ g cap gj capj, v = .slice (some ⟨g, 0, none⟩) m.length cap ∧ w.cell? ⟨g, i, none⟩ = some (.slice (some ⟨gj, 0, none⟩) r.length capj) ∧ w.cell? ⟨gj, j, none⟩ = some (.int .i64 x) ∧
      w.frozen? ⟨gj, j, none⟩ = false ∧ B ≤ gj ∧ Hid (∀ y, OwnMat tr ti B (w.setCell ⟨gj, j, none⟩ (.int .i64 y)) v (setAt m i j y)) := by
  obtain ⟨g, cap, u, hv, hc, hu, _, hback⟩ := h.toH.row hr
  obtain ⟨gj, cj, rfl, hB, hcj, hf, hst⟩ := hu.at (show (ints r)[j]? = some (.int .i64 x) by rw [ints_get?, hx]; rfl)
  refine ⟨g, cap, gj, cj, hv, by rw [hc, ints_length], hcj, hf, hB, Lib.hid fun y => ?_⟩
  have h2 := hst (.int .i64 y)
  rw [ints_set] at h2
  have h3 := (hback _ _ h2.2 h2.1 hne).toM
  unfold setAt
  rw [show m.getD i [] = r by simp [hr]]
  exact h3
theorem total_tabF (k n : Nat) (f : Nat → Nat → Int) : total (tabF k n f) = k * n := by
  induction k with
  | zero => simp [tabF, total]
  | succ k ih =>
    have e : total (tabF (k + 1) n f) = total (tabF k n f) + n := by rw [tabF_succ]; simp [total, rowF_length]
    rw [e, ih, Nat.succ_mul]
theorem tabF_small (k n : Nat) (f : Nat → Nat → Int) (hk : k ≤ 1000) (hn : n ≤ 1000) : (tabF k n f).length + total (tabF k n f) ≤ 4000000 := by
  rw [tabF_length, total_tabF]
  have : k * n ≤ 1000 * 1000 := Nat.mul_le_mul hk hn
  omega
end Go.Proofs.YtkohadoicebojaaGreatDoor
