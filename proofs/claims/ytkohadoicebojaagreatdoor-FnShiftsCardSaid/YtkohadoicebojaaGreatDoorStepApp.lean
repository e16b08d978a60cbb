/- Appending one element inside a region that leaves its order open. No statement is proved here. -/
import Derived.Test.YtkohadoicebojaaGreatDoorTab
import Derived.Deep.RegionHeld3
import Derived.Deep.AppendLies
namespace Go.Proofs.YtkohadoicebojaaGreatDoor
open Go.RowKit Go.Deep
theorem app1s {P : Program} {W : World} {ops : Array Oper} {o : Oper} {a : Act} {K : Act → World → Prop} {Q : Exit → Act → World → Prop} {E : Prop} (t e : TypeId) (bytes : Nat) (z : Value) (ht : P.underlying t = some (.slice e))
    (hinfo : (P.info? e).map (fun i => (i.zero, i.size, i.bytes)) = some (some z, 1, bytes)) (hz : z.cells.size = 1) {B : Nat} {v : Value} {xs : List Value} (hown : Own e B W v xs) (u : Value) (hu : u.oneCell' = true)
    (hlen : xs.length + 1 ≤ maxLen) (hbytes : (xs.length + 1) * bytes ≤ 140737488355328) (hB : B ≤ W.heap.size) (hgd : o.guard = none) (s x : Operand)
    (ho : o.op = .call { callee := .builtin .append, args := #[s, x], argTypes := #[t, t] }) (hs : a.eval s = v) {N : Nat} (hx : a.eval x = .slice (some ⟨N, 0, none⟩) 1 1) (hN : W.cell? ⟨N, 0, none⟩ = some u)
    (h : ∀ v' w', Own e B w' v' (xs ++ [u]) → W.grownBy w' v.ownBlock → W.heap.size ≤ w'.heap.size → K (a.put o.dst v') w') :
    if Region.wanted o (yielded ops a.tmps) = true then Oper.wp P o a W K Q else E := by
  obtain ⟨i0, hi, h0, h1, h2⟩ := info_parts hinfo
  refine step_append_lies W hgd s x t ho B e i0 z 1 bytes ht hi h0 h1 h2 hz (by decide) v xs.length xs hs hown ⟨N, 0, none⟩ 1 1 [u] hx rfl ?_ ?_ (by decide) hlen hbytes hB _ rfl ?_
  · intro j u' hj
    match j, hj with
    | 0, hj =>
      simp only [List.getElem?_cons_zero, Option.some.injEq] at hj
      subst hj
      simpa [Addr.add] using hN
  · intro u' hu'
    simp only [List.mem_singleton] at hu'
    subst hu'
    exact hu
  · intro g cap w' hown' hg _ _
    refine h _ w' ?_ hg hg.size
    have : (xs ++ [u]).length = xs.length + 1 := by simp
    unfold Own
    rw [this]
    exact hown'
end Go.Proofs.YtkohadoicebojaaGreatDoor
