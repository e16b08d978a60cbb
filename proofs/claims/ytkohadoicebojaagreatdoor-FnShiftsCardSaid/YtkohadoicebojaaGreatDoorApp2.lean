/- Appending one element, where it is also told in which block the result lies. No statement is proved here. -/
import Derived.Test.YtkohadoicebojaaGreatDoorTab
namespace Go.Proofs.YtkohadoicebojaaGreatDoor
open Go.RowKit Go.Deep
theorem run_append_blk {P : Program} {w w' : World} (t ty e : TypeId) (i : TypeInfo) (z : Value) (bytes : Nat) (ht : P.underlying t = some (.slice e)) (hi : P.info? e = some i) (hz : i.zero = some z) (hsize : i.size = 1) (hby : i.bytes = bytes)
    {B : Nat} {v v' : Value} {xs : List Value} (hown : Own e B w v xs) (a : Addr) (c : Nat) (u : Value) (hu : w.cell? a = some u) (hu1 : u.oneCell' = true) (hlen : xs.length + 1 ≤ maxLen) (hbytes : (xs.length + 1) * bytes ≤ 140737488355328)
    (hr : (Builtin.append_ #[t, t] ty #[v, .slice (some a) 1 c]).run P w = .ok v' w') : v'.ownBlock = v.ownBlock ∨ v'.ownBlock = some w.heap.size := by
  have hlen' : ((xs.length + 1 : Nat) : Int) ≤ 9223372036854775807 := by simp only [maxLen] at hlen; omega
  have hnews : ∀ (j : Nat) (x : Value), [u][j]? = some x → w.cell? (a.add j) = some x := fun j x hj => by
    match j, hj with
    | 0, hj =>
      simp only [List.getElem?_cons_zero, Option.some.injEq] at hj
      subst hj
      simpa [Addr.add] using hu
  have hown0 := hown
  obtain ⟨_, ⟨rfl, hn⟩ | ⟨g, cap, cur, rfl, hB, hg, hnc, hcm, hcs, htake⟩⟩ := hown
  · have h := run_append_nil (P := P) w t ty e i z ht hi hz a 1 c [u] (by simp [hsize]) hnews (by omega) (by omega) (by rw [hn] at hbytes; rw [hby]; omega)
    rw [h] at hr
    cases hr
    exact .inr rfl
  · by_cases hroom : xs.length + 1 ≤ cap
    · have h := run_append_room (P := P) w t ty e i ht hi g xs.length cap cur hg a 1 c [u] (by simp [hsize]) hnews (by intro x hx; simp only [List.mem_singleton] at hx; subst hx; exact hu1) hroom (by rw [hsize, hcs]; simp; omega)
      rw [h] at hr
      cases hr
      exact .inl rfl
    · have h := run_append_grow (P := P) w t ty e i z ht hi hz ⟨g, 0, none⟩ xs.length cap xs (by rw [hsize]; simp) (World.ownsRow.cells hown0 (g := g) rfl) a 1 c [u] (by simp [hsize]) hnews (by omega) (by omega) (growslice_fits (by omega) (by rw [hby]; exact hbytes))
      rw [h] at hr
      cases hr
      exact .inr rfl
/-- As app1; besides, the new slice lies where the old one lay, or in a new block. -/
theorem app1b {P : Program} {wr : World} {ops : Array Oper} {rest : List Oper} {o : Oper} {a : Act} {Q : Exit → Act → World → Prop} (t e : TypeId) (bytes : Nat) (z : Value) (ht : P.underlying t = some (.slice e))
    (hinfo : (P.info? e).map (fun i => (i.zero, i.size, i.bytes)) = some (some z, 1, bytes)) (hz : z.cells.size = 1) {B : Nat} {v : Value} {xs : List Value} (hown : Own e B wr v xs) (u : Value) (hu : u.oneCell' = true)
    (hlen : xs.length + 1 ≤ maxLen) (hbytes : (xs.length + 1) * bytes ≤ 140737488355328) (hB : B ≤ wr.heap.size) (hgd : o.guard = none) (s x : Operand)
    (ho : o.op = .call { callee := .builtin .append, args := #[s, x], argTypes := #[t, t] }) (hs : a.eval s = v) {N : Nat} (hx : a.eval x = .slice (some ⟨N, 0, none⟩) 1 1) (hN : N = wr.heap.size)
    (K : ∀ v' w', Own e B w' v' (xs ++ [u]) → wr.grownBy w' v.ownBlock → wr.heap.size + 1 ≤ w'.heap.size → (v'.ownBlock = v.ownBlock ∨ v'.ownBlock = some (wr.heap.size + 1)) → wpList P ops Q rest (a.put o.dst v') w') :
    wpList P ops Q (o :: rest) a (wr.alloc (.cells #[u] e)) := by
  subst hN
  obtain ⟨i0, hi, h0, h1, h2⟩ := info_parts hinfo
  refine wpList_plain hgd fun K' hK' => ?_
  have hcell : (wr.alloc (.cells #[u] e)).cell? ⟨wr.heap.size, 0, none⟩ = some u := by simp
  have hnews : ∀ (j : Nat) (x : Value), [u][j]? = some x → (wr.alloc (.cells #[u] e)).cell? ((⟨wr.heap.size, 0, none⟩ : Addr).add j) = some x := fun j x hj => by
    match j, hj with
    | 0, hj =>
      simp only [List.getElem?_cons_zero, Option.some.injEq] at hj
      subst hj
      simp [Addr.add]
  have hownA : Own e B (wr.alloc (.cells #[u] e)) v xs := World.ownsRow.alloc hown _
  obtain ⟨v', w', hr, hown', hg, _⟩ := run_append_own (P := P) (wr.alloc (.cells #[u] e)) B t o.type e i0 z 1 bytes ht hi h0 h1 h2 hz (by decide) v xs.length xs hownA ⟨wr.heap.size, 0, none⟩ 1 1 [u] rfl hnews
    (by intro x hx; simp only [List.mem_singleton] at hx; subst hx; exact hu) hlen hbytes (by simp; omega)
  have hblk := run_append_blk t o.type e i0 z bytes ht hi h0 h1 h2 hownA ⟨wr.heap.size, 0, none⟩ 1 u hcell hu hlen hbytes hr
  unfold Oper.wp execOp
  simp only [ho, resolve, invoke, builtin, Sem.run_bind, Sem.run_pure, Result.andThen_ok, List.map_toArray, List.map_cons, List.map_nil, hs, hx, hr]
  refine hK' _ _ (K v' w' ?_ ?_ ?_ ?_)
  · have : (xs ++ [u]).length = xs.length + 1 := by simp
    unfold Own
    rw [this]
    exact hown'
  · exact ⟨hg.os, hg.tape, hg.output, Nat.le_trans (by simp) hg.size, fun k hk hkr => (hg.block k (by simp; omega) hkr).trans (Below.heap_alloc _ _ _ hk)⟩
  · have := hg.size
    simpa using this
  · simpa using hblk
/-- The block of a value lies outside [lo, hi). -/
def Out (lo hi : Nat) (v : Value) : Prop := ∀ k, v.ownBlock = some k → k < lo ∨ hi ≤ k
theorem Out.next {lo hi : Nat} {v v' : Value} {N : Nat} (h : Out lo hi v) (hb : v'.ownBlock = v.ownBlock ∨ v'.ownBlock = some N) (hN : hi ≤ N) : Out lo hi v' := by
  intro k hk
  rcases hb with e | e
  · exact h k (by rw [← e]; exact hk)
  · rw [e] at hk; cases hk; exact .inr hN
theorem OwnMatH.grownOut {tr ti : TypeId} {B H : Nat} {w w' : World} {v u : Value} {m : List (List Int)} (h : OwnMatH tr ti B H w v m) (hg : w.grownBy w' u.ownBlock) (ho : Out B H u) : OwnMatH tr ti B H w' v m := by
  obtain ⟨vs, h1, h2, h3, h4⟩ := h
  have key : ∀ x : Value, (∀ k, x.ownBlock = some k → B ≤ k ∧ k < H) → x.ownBlock = none ∨ x.ownBlock ≠ u.ownBlock := fun x hx => by
    cases e : x.ownBlock with
    | none => exact .inl rfl
    | some k =>
      refine .inr fun e2 => ?_
      have h5 := hx k e
      have h6 := ho k e2.symm
      omega
  refine ⟨vs, h1.grown hg (key v fun k hk => ⟨(h1.lt k hk).1, h3 k hk⟩), ⟨h2.1, fun i hi hi' => (h2.2.1 i hi hi').grown hg (key _ fun k hk => ⟨((h2.2.1 i hi hi').lt k hk).1, h4 _ (List.getElem_mem hi) k hk⟩), h2.2.2⟩, h3, h4⟩
/-- As appM; besides, the new table lies where the old one lay, or in a new block. -/
theorem appMb {P : Program} {wr : World} {ops : Array Oper} {rest : List Oper} {o : Oper} {a : Act} {Q : Exit → Act → World → Prop} (t tr ti : TypeId) (ht : P.underlying t = some (.slice tr))
    (hinfo : (P.info? tr).map (fun i => (i.zero, i.size, i.bytes)) = some (some (.slice none 0 0), 1, 24)) (hne : ti ≠ tr) {B C : Nat} {v u : Value} {m : List (List Int)} {l : List Int} (hH : OwnMatH tr ti B C wr v m) (hu : Own ti C wr u (ints l))
    (hBC : B ≤ C) (hCw : C ≤ wr.heap.size) (hlen : m.length ≤ 4000000) (hgd : o.guard = none) (s x : Operand)
    (ho : o.op = .call { callee := .builtin .append, args := #[s, x], argTypes := #[t, t] }) (hs : a.eval s = v) {N : Nat} (hx : a.eval x = .slice (some ⟨N, 0, none⟩) 1 1) (hN : N = wr.heap.size)
    (K : ∀ v' w', OwnMat tr ti B w' v' (m ++ [l]) → wr.grownBy w' v.ownBlock → wr.heap.size + 1 ≤ w'.heap.size → (v'.ownBlock = v.ownBlock ∨ v'.ownBlock = some (wr.heap.size + 1)) → wpList P ops Q rest (a.put o.dst v') w') :
    wpList P ops Q (o :: rest) a (wr.alloc (.cells #[u] tr)) := by
  obtain ⟨vs, h1, h2, h3, h4⟩ := hH
  have hl := h2.1
  refine app1b t tr 24 (.slice none 0 0) ht hinfo rfl h1 u hu.one (by unfold maxLen; omega) (by omega) (by omega) hgd s x ho hs hx hN fun v' w' h5 h6 h7 h8 => K v' w' (OwnMatH.grow h1 h2 h4 hu hBC hne h5 h6) h6 h7 h8
end Go.Proofs.YtkohadoicebojaaGreatDoor
