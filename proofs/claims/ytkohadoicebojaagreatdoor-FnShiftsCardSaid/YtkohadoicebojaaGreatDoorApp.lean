/- Appending one element to a slice that the call owns; what it leaves of other owned memory. No statement is proved here. -/
import Derived.Test.YtkohadoicebojaaGreatDoorMem
namespace Go.Proofs.YtkohadoicebojaaGreatDoor
open Go.RowKit Go.Deep

theorem Own.empty (e : TypeId) (w : World) : Own e w.heap.size (w.alloc (.cells #[] e)) (.slice (some ⟨w.heap.size, 0, none⟩) 0 0) [] :=
  World.ownsRow_made w #[] 0 (Nat.le_refl _) (by simp [maxLen]) rfl
theorem Own.nil (e : TypeId) (B : Nat) (w : World) : Own e B w (.slice none 0 0) [] := World.ownsRow_nil w B e 1
theorem Own.grown {e : TypeId} {B : Nat} {w w' : World} {v : Value} {xs : List Value} {row : Option Nat} (h : Own e B w v xs) (hg : w.grownBy w' row) (hne : v.ownBlock = none ∨ v.ownBlock ≠ row) : Own e B w' v xs := World.ownsRow.kept h hg hne
theorem Own.cells {e : TypeId} {B : Nat} {w : World} {v : Value} {xs : List Value} (h : Own e B w v xs) {k : Nat} (hk : v.ownBlock = some k) : ∃ cur, w.heap[k]? = some (.cells cur e (0, 0)) := by
  obtain ⟨_, ⟨rfl, _⟩ | ⟨g, cap, cur, rfl, _, hg, _⟩⟩ := h
  · simp [Value.ownBlock] at hk
  · simp [Value.ownBlock] at hk; subst hk; exact ⟨cur, hg⟩
/-- Two owned slices of different element types do not share a block. -/
theorem Own.other {e e' : TypeId} {B B' : Nat} {w : World} {v v' : Value} {xs xs' : List Value} (h : Own e B w v xs) (h' : Own e' B' w v' xs') (hne : e ≠ e') : v.ownBlock = none ∨ v.ownBlock ≠ v'.ownBlock := by
  cases hk : v.ownBlock with
  | none => exact .inl rfl
  | some k =>
    refine .inr fun hk' => ?_
    obtain ⟨c, hc⟩ := h.cells hk
    obtain ⟨c', hc'⟩ := h'.cells hk'.symm
    rw [hc] at hc'
    simp only [Option.some.injEq, Obj.cells.injEq] at hc'
    exact hne hc'.2.1
theorem OwnRows.grown {tr ti : TypeId} {B B' : Nat} {w w' : World} {v : Value} {xs vs : List Value} {m : List (List Int)} (h : OwnRows ti B w vs m) (ho : Own tr B' w v xs) (hne : ti ≠ tr) (hg : w.grownBy w' v.ownBlock) : OwnRows ti B w' vs m :=
  ⟨h.1, fun i h1 h2 => (h.2.1 i h1 h2).grown hg ((h.2.1 i h1 h2).other ho hne), h.2.2⟩
theorem Own.below {e : TypeId} {B C : Nat} {w w' : World} {v : Value} {xs : List Value} (h : Own e B w v xs) (hg : w.grownBy w' v.ownBlock) (hC : C ≤ B) (hs : C ≤ w.heap.size) : Below C w w' :=
  (Below.refl C w).grown hg hs fun k hk => by have := (h.lt k hk).1; omega
/-- 'out = append(out, u)' of one element that takes one cell, out owned by the call. -/
theorem app1 {P : Program} {wr : World} {ops : Array Oper} {rest : List Oper} {o : Oper} {a : Act} {Q : Exit → Act → World → Prop} (t e : TypeId) (bytes : Nat) (z : Value) (ht : P.underlying t = some (.slice e))
    (hinfo : (P.info? e).map (fun i => (i.zero, i.size, i.bytes)) = some (some z, 1, bytes)) (hz : z.cells.size = 1) {B : Nat} {v : Value} {xs : List Value} (hown : Own e B wr v xs) (u : Value) (hu : u.oneCell' = true)
    (hlen : xs.length + 1 ≤ maxLen) (hbytes : (xs.length + 1) * bytes ≤ 140737488355328) (hB : B ≤ wr.heap.size) (hgd : o.guard = none) (s x : Operand)
    (ho : o.op = .call { callee := .builtin .append, args := #[s, x], argTypes := #[t, t] }) (hs : a.eval s = v) {N : Nat} (hx : a.eval x = .slice (some ⟨N, 0, none⟩) 1 1) (hN : N = wr.heap.size)
    (K : ∀ v' w', Own e B w' v' (xs ++ [u]) → wr.grownBy w' v.ownBlock → wr.heap.size + 1 ≤ w'.heap.size → wpList P ops Q rest (a.put o.dst v') w') :
    wpList P ops Q (o :: rest) a (wr.alloc (.cells #[u] e)) := by
  subst hN
  obtain ⟨i0, hi, h0, h1, h2⟩ := info_parts hinfo
  refine wpList_append_own _ hgd s x t ho B e i0 z 1 bytes ht hi h0 h1 h2 hz (by decide) v xs.length xs hs (World.ownsRow.alloc hown _) ⟨wr.heap.size, 0, none⟩ 1 1 [u] hx rfl ?_ ?_ hlen hbytes (by simp; omega) ?_
  · intro j u' hj
    match j, hj with
    | 0, hj =>
      simp only [List.getElem?_cons_zero, Option.some.injEq] at hj
      subst hj
      simp [Addr.add]
  · intro u' hu'
    simp only [List.mem_singleton] at hu'
    subst hu'
    exact hu
  · intro v' w' hown' hg _
    refine K v' w' ?_ ?_ ?_
    · have : (xs ++ [u]).length = xs.length + 1 := by simp
      unfold Own
      rw [this]
      exact hown'
    · exact ⟨hg.os, hg.tape, hg.output, Nat.le_trans (by simp) hg.size, fun k hk hkr => (hg.block k (by simp; omega) hkr).trans (Below.heap_alloc _ _ _ hk)⟩
    · have := hg.size
      simpa using this
theorem bytes_one (x : Int) : (Value.int .u8 x).oneCell' = true := rfl
/-- Two stores into one block, read again. -/
theorem cell_set2 {w : World} {g i j : Nat} {x y u v : Value} (hi : w.cell? ⟨g, i, none⟩ = some x) (hj : w.cell? ⟨g, j, none⟩ = some y) (k : Nat) :
    ((w.setCell ⟨g, i, none⟩ u).setCell ⟨g, j, none⟩ v).cell? ⟨g, k, none⟩ = if k = j then some v else if k = i then some u else w.cell? ⟨g, k, none⟩ := by
  have h1 : (w.setCell ⟨g, i, none⟩ u).cell? ⟨g, k, none⟩ = if k = i then some u else w.cell? ⟨g, k, none⟩ := by
    by_cases e : k = i
    · subst e; rw [if_pos rfl]; exact World.cell?_setCell_same _ _ _ hi
    · rw [if_neg e]; exact World.cell?_setCell_other _ _ _ _ (by intro h; cases h; exact e rfl)
  by_cases e : k = j
  · subst e
    rw [if_pos rfl]
    have : ∃ z, (w.setCell ⟨g, i, none⟩ u).cell? ⟨g, k, none⟩ = some z := by
      rw [h1]; split
      · exact ⟨_, rfl⟩
      · exact ⟨_, hj⟩
    obtain ⟨z, hz⟩ := this
    exact World.cell?_setCell_same _ _ _ hz
  · rw [if_neg e, ← h1]; exact World.cell?_setCell_other _ _ _ _ (by intro h; cases h; exact e rfl)
end Go.Proofs.YtkohadoicebojaaGreatDoor
