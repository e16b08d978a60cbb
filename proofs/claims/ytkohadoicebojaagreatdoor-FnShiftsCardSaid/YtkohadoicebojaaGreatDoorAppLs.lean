/- Append of a slice inside a region that draws its order. No statement is proved here. -/
import Derived.Test.YtkohadoicebojaaGreatDoorShift
import Derived.Test.YtkohadoicebojaaGreatDoorStepApp
import Derived.Test.YtkohadoicebojaaGreatDoorAppL
import Derived.Deep.RegionLaw
import Derived.Deep.AppendLies
import Derived.Deep.RegionHeld3
namespace Go.Proofs.YtkohadoicebojaaGreatDoor
open Go.RowKit Go.Deep
theorem run_append_zero' {P : Program} {w : World} {B : Nat} (t ty e : TypeId) (i : TypeInfo) (ht : P.underlying t = some (.slice e)) (hi : P.info? e = some i) {v : Value} {xs : List Value} (hown : Own e B w v xs) (A : Option Addr) (c : Nat) :
    (Builtin.append_ #[t, t] ty #[v, .slice A 0 c]).run P w = .ok v w := by
  cases A with
  | none => exact run_append_zero t ty e i ht hi hown c
  | some ad =>
    have hl : (loadCells ad 0).run P w = .ok #[] w := by simp [loadCells, loadCellsFrom]
    obtain ⟨_, ⟨rfl, _⟩ | ⟨g, cap, cur, rfl, _, _, hn, _⟩⟩ := hown
    · simp [Builtin.append_, run_underlying ht, sizeOf, typeInfo, hi, Builtin.lenOf, Builtin.firstCells, hl]
    · simp [Builtin.append_, run_underlying ht, sizeOf, typeInfo, hi, Builtin.lenOf, Builtin.firstCells, hn, storeCells, hl]
/-- 'append(s, u...)' inside a region that draws. -/
theorem appLs {P : Program} {W : World} {ops : Array Oper} {o : Oper} {a : Act} {K : Act → World → Prop} {Q : Exit → Act → World → Prop} {E : Prop} (t e : TypeId) (bytes : Nat) (z : Value) (ht : P.underlying t = some (.slice e))
    (hinfo : (P.info? e).map (fun i => (i.zero, i.size, i.bytes)) = some (some z, 1, bytes)) (hz : z.cells.size = 1) {B : Nat} {v : Value} {xs : List Value} (hown : Own e B W v xs) {u : Value} {ys : List Value} (hr : Row W u ys) (h1 : ∀ y ∈ ys, y.oneCell' = true)
    (hlen : xs.length + ys.length ≤ maxLen) (hbytes : (xs.length + ys.length) * bytes ≤ 140737488355328) (hB : B ≤ W.heap.size) (hgd : o.guard = none) (s x : Operand)
    (ho : o.op = .call { callee := .builtin .append, args := #[s, x], argTypes := #[t, t] }) (hs : a.eval s = v) (hx : a.eval x = u)
    (h : ∀ v' w', Own e B w' v' (xs ++ ys) → W.grownBy w' v.ownBlock → K (a.put o.dst v') w') :
    if Region.wanted o (yielded ops a.tmps) = true then Oper.wp P o a W K Q else E := by
  obtain ⟨i0, hi, h0, hs1, h2⟩ := info_parts hinfo
  by_cases hy : ys = []
  · subst hy
    obtain ⟨A, cap, rfl, hl, hm, hc⟩ := hr
    have hw : Region.wanted o (yielded ops a.tmps) = true := by simp [Region.wanted, hgd]
    rw [if_pos hw]
    have hrun := run_append_zero' (P := P) t o.type e i0 ht hi hown A cap
    unfold Oper.wp execOp
    simp only [ho, resolve, invoke, builtin, Sem.run_bind, Sem.run_pure, Result.andThen_ok, List.map_toArray, List.map_cons, List.map_nil, hs, hx, List.length_nil, hrun]
    exact h _ _ (by simpa using hown) (World.grownBy.refl _ _)
  · have hpos : 0 < ys.length := List.length_pos_iff.2 hy
    obtain ⟨A, cap, rfl, hl, hm, hc⟩ := hr
    obtain ⟨b, off, rfl, _⟩ := hc 0 hpos
    have hnews : ∀ j u', ys[j]? = some u' → W.cell? ((⟨b, off, none⟩ : Addr).add j) = some u' := by
      intro j u' hj
      obtain ⟨hj', e1⟩ := List.getElem?_eq_some_iff.1 hj
      obtain ⟨b', off', e2, hcell⟩ := hc j hj'
      cases e2
      rw [add_zero_at, hcell, e1]
    refine step_append_lies W hgd s x t ho B e i0 z 1 bytes ht hi h0 hs1 h2 hz (by decide) v xs.length xs hs hown ⟨b, off, none⟩ ys.length cap ys hx (by simp) hnews h1 hpos hlen hbytes hB _ rfl ?_
    intro g cap' w' hown' hg _ _
    refine h _ w' ?_ hg
    have : (xs ++ ys).length = xs.length + ys.length := by simp
    unfold Own
    rw [this]
    exact hown'
theorem strs_one (l : List ByteArray) : ∀ y ∈ strs l, y.oneCell' = true := fun y hy => by
  obtain ⟨x, _, rfl⟩ := List.mem_map.1 hy
  rfl
end Go.Proofs.YtkohadoicebojaaGreatDoor
