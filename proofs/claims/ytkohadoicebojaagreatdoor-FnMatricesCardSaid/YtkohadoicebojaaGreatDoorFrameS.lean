/- The frame of a law's statement, for slices of strings and shifts, and over a world whose shape is known. No statement is proved here. -/
import Derived.Test.YtkohadoicebojaaGreatDoorFrame
import Derived.Test.YtkohadoicebojaaGreatDoorStrsH
import Derived.HandedShaped
import Derived.Lib.SmallJoins
import Derived.Deep.Strs
namespace Go.Proofs.YtkohadoicebojaaGreatDoor
open Go.RowKit Go.Deep Go.ChangeShapes Go.WideShapes Go.ChangeAt Go.Joins
def StrsZ (w : World) (v : Value) (l : List ByteArray) : Prop := Strs w v l ∧ ∀ s ∈ l, s.size ≤ maxLen
section
variable {H : Type} {enc : TypeId × Value → H} {P : Program} {w : World}
theorem strs_of_trod {t e : TypeId} {v : Value} (ht : P.underlying t = some (.slice e)) (he : P.underlying e = some .string) (hc : P.cellsOf e = 1) {cs : List Value} (hcs : cs = [v]) {fuel : Nat}
    {x : DataW H × List MemPlace} (h : DataW.trod enc P w 0 (fun _ => true) true fuel t cs = some x) : ∃ l, StrsZ w v l := by
  subst hcs
  rcases open_strs ht he hc h with ⟨hcs, _⟩ | ⟨a, len, cap, m, Sx, hcs, _, hl, hm, hmm, _, hcell⟩
  · simp only [List.cons.injEq, and_true] at hcs
    subst hcs
    exact ⟨[], ⟨none, 0, rfl, by simp [strs], by simp [maxLen], fun i hi => by simp [strs] at hi⟩, fun s hs => by cases hs⟩
  · simp only [List.cons.injEq, and_true] at hcs
    subst hcs
    simp only [if_true] at hmm
    refine ⟨(List.range len).map Sx, ⟨some a, cap, by simp [strs], by simpa [strs] using hl, hm, fun i hi => ?_⟩, fun s hs => ?_⟩
    · have hi' : i < len := by simpa [strs] using hi
      obtain ⟨b, off, rfl, hc⟩ := addr_of (hcell 0 (by omega)).1 (hcell i (by omega)).1
      exact ⟨b, off, rfl, by rw [hc]; simp [strs]⟩
    · obtain ⟨i, hi, rfl⟩ := List.mem_map.1 hs
      rw [List.mem_range] at hi
      exact (hcell i (by omega)).2
theorem shift_of_trod {t te : TypeId} {f0 f1 : Field} {d : DataW H} {p : List MemPlace} {v : Value} {r : Reach} {b0 : Nat} (hs : P.underlying t = some (.struct #[f0, f1])) (hone : oneCellFields P #[f0, f1] = true) (hC : P.cellsOf t = 2)
    (h0 : P.underlying f0.type = some (.int .i64)) (h1 : P.underlying f1.type = some (.slice te)) (h2 : P.underlying te = some .string) (hc : P.cellsOf te = 1) (hv : Value.okWide P w r b0 t v) (h : DataW.Trod enc P w 0 (fun _ => true) true t v d p) :
    ∃ k a n c l, v = .agg #[.int .i64 k, .slice a n c] ∧ (Lit.int .i64 k).wf = true ∧ StrsZ w (.slice a n c) l := by
  obtain ⟨c0, c1, y0, y1, m, rfl, _, _, hy0, hy1⟩ := open_agg2 hs hone hC hv h
  obtain ⟨a, e0, _, wa⟩ := DataW.trod_int h0 hy0
  simp only [List.cons.injEq, and_true] at e0
  subst e0
  obtain ⟨l, hl⟩ := strs_of_trod h1 h2 hc rfl hy1
  obtain ⟨a1, n1, k1, rfl, -⟩ := hl.1.open
  exact ⟨a, a1, n1, k1, l, rfl, wa, hl⟩
end
set_option maxRecDepth 100000 in
/-- FROM A WALK TO THE ROW's STEP, for a law, the world's shape being known. -/
theorem lifted_law_shaped {os : Os} {H : Type} {enc : TypeId × Value → H} {k : FuncId} {fn : Func} {s : ChangeSpec} (started : os.Started) (noInit : Tryz.checked.prog.inits.idxOf? k = none) (hfn : Tryz.prog.funcs[k]? = some fn)
    (witness : ∃ (w : World) (tape : Tape) (i : Input), w.os = os ∧ (w.forCall tape i).Shaped Tryz.checked.prog ∧ i.vars = [] ∧ Input.okWide Tryz.checked.prog (w.forCall tape i) .any w.heap.size k i ∧
      s.pre6 enc Tryz.checked.prog fn [] false (w.forCall tape i).memory i.args ∧ ({} : Assume).holds Tryz.checked.prog (lone (Frame.enter Tryz.checked.prog k i.args .normal) [] (w.forCall tape i)))
    (hvars : s.vars = []) (hr : fn.params.toList.all (fun t => Tryz.prog.readableRec t && decide (t < Tryz.prog.types.size)) = true) (hres : fn.resultTypes = #[4])
    (hspec : ∀ ds : List (DataW H), ds.length = fn.params.toList.length → s.fn H (ds ++ []) = { results := [.lit (.bool true)], args := ds })
    (walk : ∀ (W : World) (base : Nat) (args : Array Value) (ds : List (DataW H)) (p : List MemPlace), W.ShapedOpen Tryz.prog → (∀ (j : Nat) t v, fn.params[j]? = some t → args[j]? = some v → Value.okWide Tryz.prog W .any base t v) →
      DataW.TrodAll enc Tryz.prog W 0 (fun _ => true) true fn.params.toList args.toList ds p → Calls Tryz.prog k args W fun e W' => e = .returned (.bool true) ∧ Below W.heap.size W W') :
    ReturnsInHanded {} Tryz.checked os k .any (s.pre6 enc Tryz.prog fn [] false) (s.post enc Tryz.prog fn false true false false) := by
  refine returnsInHanded_of_change_shaped (C := Tryz.checked) own started noInit hfn witness ?_
  intro W base args ds gs before hval hW _ _ hsh _
  have hW' := hW
  obtain ⟨p, q, hA, hV, rfl, _, _⟩ := hW
  rw [hvars] at hV
  obtain ⟨rfl, rfl⟩ := trodVars_none hV
  have hlen : ∀ (ts : List TypeId) (vs : List Value) (ds : List (DataW H)) (p : List MemPlace), DataW.TrodAll enc Tryz.prog W 0 (fun _ => true) true ts vs ds p → ds.length = ts.length := by
    intro ts
    induction ts with
    | nil => intro vs ds p h; obtain ⟨_, rfl, _⟩ := trodAll_nil h; rfl
    | cons t ts ih => intro vs ds p h; obtain ⟨v, vs', d, ds', p', q', rfl, rfl, rfl, _, h1⟩ := trodAll_cons h; simp [ih _ _ _ h1]
  have hs := hspec ds (hlen _ _ _ _ hA)
  refine (walk W base args ds p hsh hval hA).mono fun e W' ⟨he, bel⟩ => ?_
  subst he
  refine ⟨_, rfl, ds, [], p ++ [], [], p, [], hW', ?_, ?_, ?_, bel.frame _, fun h => by cases h⟩
  · rw [hs, hres]
    exact trodAll_mk1 (shut_bool Tryz.underlying4 _)
  · rw [hs]
    exact trodAll_stays laidOut bel _ _ _ _ hr hA (trodAll_lt _ _ _ _ hA)
  · rw [hs, hvars]
    rfl
end Go.Proofs.YtkohadoicebojaaGreatDoor
