/- Appending a whole slice of numbers, and slices.Clone. No statement is proved here. -/
import Derived.Test.YtkohadoicebojaaGreatDoorTab
import Derived.Test.YtkohadoicebojaaGreatDoorHelp
import Derived.Laws.AppendOwnNone
import Derived.Lib.SliceRun
namespace Go.Proofs.YtkohadoicebojaaGreatDoor
open Go.RowKit Go.Deep
theorem add_zero_at (b off j : Nat) : (⟨b, off, none⟩ : Addr).add j = ⟨b, off + j, none⟩ := by
  unfold Addr.add
  by_cases h : j = 0
  · subst h; simp
  · simp [h]
theorem run_append_zero {P : Program} {w : World} {B : Nat} (t ty e : TypeId) (i : TypeInfo) (ht : P.underlying t = some (.slice e)) (hi : P.info? e = some i) {v : Value} {xs : List Value} (hown : Own e B w v xs) (c : Nat) :
    (Builtin.append_ #[t, t] ty #[v, .slice none 0 c]).run P w = .ok v w := by
  obtain ⟨_, ⟨rfl, _⟩ | ⟨g, cap, cur, rfl, _, _, hn, _⟩⟩ := hown
  · simp [Builtin.append_, run_underlying ht, sizeOf, typeInfo, hi, Builtin.lenOf, Builtin.firstCells]
  · simp [Builtin.append_, run_underlying ht, sizeOf, typeInfo, hi, Builtin.lenOf, Builtin.firstCells, hn, storeCells]
/-- 'out = append(out, src...)', out owned by the call, src whatever slice that reads as ys. -/
theorem appL {P : Program} {wr : World} {ops : Array Oper} {rest : List Oper} {o : Oper} {a : Act} {Q : Exit → Act → World → Prop} (t e : TypeId) (bytes : Nat) (z : Value) (ht : P.underlying t = some (.slice e))
    (hinfo : (P.info? e).map (fun i => (i.zero, i.size, i.bytes)) = some (some z, 1, bytes)) (hz : z.cells.size = 1) {B : Nat} {v : Value} {xs : List Value} (hown : Own e B wr v xs) {u : Value} {ys : List Value} (hr : Row wr u ys) (h1 : ∀ y ∈ ys, y.oneCell' = true)
    (hlen : xs.length + ys.length ≤ maxLen) (hbytes : (xs.length + ys.length) * bytes ≤ 140737488355328) (hB : B ≤ wr.heap.size) (hgd : o.guard = none) (s x : Operand)
    (ho : o.op = .call { callee := .builtin .append, args := #[s, x], argTypes := #[t, t] }) (hs : a.eval s = v) (hx : a.eval x = u)
    (K : ∀ v' w', Own e B w' v' (xs ++ ys) → wr.grownBy w' v.ownBlock → wpList P ops Q rest (a.put o.dst v') w') :
    wpList P ops Q (o :: rest) a wr := by
  obtain ⟨i0, hi, h0, hs1, h2⟩ := info_parts hinfo
  obtain ⟨A, cap, rfl, hl, hm, hc⟩ := hr
  cases A with
  | none =>
    have hy : ys = [] := by
      cases ys with
      | nil => rfl
      | cons y ys => obtain ⟨b, off, e1, _⟩ := hc 0 (by simp); cases e1
    subst hy
    refine wpList_plain hgd fun K' hK' => ?_
    have hrun := run_append_zero (P := P) t o.type e i0 ht hi hown cap
    unfold Oper.wp execOp
    simp only [ho, resolve, invoke, builtin, Sem.run_bind, Sem.run_pure, Result.andThen_ok, List.map_toArray, List.map_cons, List.map_nil, hs, hx, List.length_nil, hrun]
    exact hK' _ _ (K v wr (by simpa using hown) (World.grownBy.refl _ _))
  | some ad =>
    have hnews : ∀ j u', ys[j]? = some u' → wr.cell? (ad.add j) = some u' := by
      intro j u' hj
      obtain ⟨hj', e1⟩ := List.getElem?_eq_some_iff.1 hj
      obtain ⟨b, off, e2, hcell⟩ := hc j hj'
      cases e2
      rw [add_zero_at, hcell, e1]
    refine wpList_append_own _ hgd s x t ho B e i0 z 1 bytes ht hi h0 hs1 h2 hz (by decide) v xs.length xs hs hown ad ys.length cap ys hx (by simp) hnews h1 hlen hbytes hB ?_
    intro v' w' hown' hg _
    refine K v' w' ?_ hg
    have : (xs ++ ys).length = xs.length + ys.length := by simp
    unfold Own
    rw [this]
    exact hown'
/-- appM for long tables. -/
theorem appMw {P : Program} {wr : World} {ops : Array Oper} {rest : List Oper} {o : Oper} {a : Act} {Q : Exit → Act → World → Prop} (t tr ti : TypeId) (ht : P.underlying t = some (.slice tr))
    (hinfo : (P.info? tr).map (fun i => (i.zero, i.size, i.bytes)) = some (some (.slice none 0 0), 1, 24)) (hne : ti ≠ tr) {B C : Nat} {v u : Value} {m : List (List Int)} {l : List Int} (hH : OwnMatH tr ti B C wr v m) (hu : Own ti C wr u (ints l))
    (hBC : B ≤ C) (hCw : C ≤ wr.heap.size) (hlen : m.length ≤ 1000000000000) (hgd : o.guard = none) (s x : Operand)
    (ho : o.op = .call { callee := .builtin .append, args := #[s, x], argTypes := #[t, t] }) (hs : a.eval s = v) {N : Nat} (hx : a.eval x = .slice (some ⟨N, 0, none⟩) 1 1) (hN : N = wr.heap.size)
    (K : ∀ v' w', OwnMat tr ti B w' v' (m ++ [l]) → wr.grownBy w' v.ownBlock → wr.heap.size + 1 ≤ w'.heap.size → wpList P ops Q rest (a.put o.dst v') w') :
    wpList P ops Q (o :: rest) a (wr.alloc (.cells #[u] tr)) := by
  obtain ⟨vs, h1, h2, h3, h4⟩ := hH
  have hl := h2.1
  refine app1 t tr 24 (.slice none 0 0) ht hinfo rfl h1 u hu.one (by unfold maxLen; omega) (by omega) (by omega) hgd s x ho hs hx hN fun v' w' h5 h6 h7 => K v' w' (OwnMatH.grow h1 h2 h4 hu hBC hne h5 h6) h6 h7
theorem ints_one (l : List Int) : ∀ y ∈ ints l, y.oneCell' = true := fun y hy => by
  obtain ⟨x, _, rfl⟩ := List.mem_map.1 hy
  rfl
theorem ints_append (l m : List Int) : ints (l ++ m) = ints l ++ ints m := by simp [ints]
end Go.Proofs.YtkohadoicebojaaGreatDoor
