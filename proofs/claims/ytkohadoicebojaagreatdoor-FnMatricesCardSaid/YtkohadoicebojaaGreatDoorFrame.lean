/- The frame of a law's statement: from a walk to the row's step. No statement is proved here. -/
import Derived.Test.YtkohadoicebojaaGreatDoorRows
import Derived.Test.YtkohadoicebojaaGreatDoorMem
import Derived.ProofKit
import Derived.OpenShut
import Derived.ShutString
import Derived.ChangeOld
import Derived.Deep.Slices
namespace Go.Proofs.YtkohadoicebojaaGreatDoor
open Go.RowKit Go.Deep Go.ChangeShapes Go.WideShapes Go.ChangeAt

theorem own : ownKnob Tryz.prog.godebug = none := by kernel_rfl
theorem laidOut : laidOutB Tryz.prog = true := by kernel_rfl
section
variable {H : Type} {enc : TypeId × Value → H} {P : Program} {W W' : World}
theorem trodAll_stays (hl : laidOutB P = true) (bel : Below W.heap.size W W') : ∀ (ts : List TypeId) (vs : List Value) (ds : List (DataW H)) (p : List MemPlace),
    ts.all (fun t => P.readableRec t && decide (t < P.types.size)) = true → DataW.TrodAll enc P W 0 (fun _ => true) true ts vs ds p → (∀ x ∈ p, x.block < W.heap.size) →
    DataW.TrodAll enc P W' 0 (fun b => decide (b < W.heap.size)) true ts vs ds p := by
  intro ts
  induction ts with
  | nil =>
    intro vs ds p _ h _
    obtain ⟨rfl, rfl, rfl⟩ := trodAll_nil h
    exact trodAll_mk0
  | cons t ts ih =>
    intro vs ds p hr h hlt
    obtain ⟨v, vs', d, ds', p', q', rfl, rfl, rfl, h0, h1⟩ := trodAll_cons h
    simp only [List.all_cons, Bool.and_eq_true, decide_eq_true_eq] at hr
    refine trodAll_cons_mk (Below.trod hl hr.1.1 hr.1.2 h0 bel fun x hx => hlt x (List.mem_append_left _ hx)) (ih _ _ _ hr.2 h1 fun x hx => hlt x (List.mem_append_right _ hx))
theorem trodAll_lt : ∀ (ts : List TypeId) (vs : List Value) (ds : List (DataW H)) (p : List MemPlace), DataW.TrodAll enc P W 0 (fun _ => true) true ts vs ds p → ∀ x ∈ p, x.block < W.heap.size := by
  intro ts
  induction ts with
  | nil =>
    intro vs ds p h
    obtain ⟨rfl, rfl, rfl⟩ := trodAll_nil h
    simp
  | cons t ts ih =>
    intro vs ds p h
    obtain ⟨v, vs', d, ds', p', q', rfl, rfl, rfl, ⟨m, h0⟩, h1⟩ := trodAll_cons h
    intro x hx
    rcases List.mem_append.1 hx with hx | hx
    · exact DataW.trod_lt m _ _ _ h0 x hx
    · exact ih _ _ _ h1 x hx
end

set_option maxRecDepth 100000 in
/-- FROM A WALK TO THE ROW's STEP, for a law: the call returns true and nothing that was there has turned. -/
theorem lifted_law {os : Os} {H : Type} {enc : TypeId × Value → H} {k : FuncId} {fn : Func} {s : ChangeSpec} (started : os.Started) (noInit : Tryz.checked.prog.inits.idxOf? k = none) (hfn : Tryz.prog.funcs[k]? = some fn)
    (witness : ∃ (w : World) (tape : Tape) (i : Input), w.os = os ∧ (w.forCall tape i).Shaped Tryz.checked.prog ∧ i.vars = [] ∧ Input.okWide Tryz.checked.prog (w.forCall tape i) .any w.heap.size k i ∧
      s.pre6 enc Tryz.checked.prog fn [] false (w.forCall tape i).memory i.args ∧ ({} : Assume).holds Tryz.checked.prog (lone (Frame.enter Tryz.checked.prog k i.args .normal) [] (w.forCall tape i)))
    (hvars : s.vars = []) (hr : fn.params.toList.all (fun t => Tryz.prog.readableRec t && decide (t < Tryz.prog.types.size)) = true) (hres : fn.resultTypes = #[4])
    (hspec : ∀ ds : List (DataW H), ds.length = fn.params.toList.length → s.fn H (ds ++ []) = { results := [.lit (.bool true)], args := ds })
    (walk : ∀ (W : World) (base : Nat) (args : Array Value) (ds : List (DataW H)) (p : List MemPlace), (∀ (j : Nat) t v, fn.params[j]? = some t → args[j]? = some v → Value.okWide Tryz.prog W .any base t v) →
      DataW.TrodAll enc Tryz.prog W 0 (fun _ => true) true fn.params.toList args.toList ds p → Calls Tryz.prog k args W fun e W' => e = .returned (.bool true) ∧ Below W.heap.size W W') :
    ReturnsInHanded {} Tryz.checked os k .any (s.pre6 enc Tryz.prog fn [] false) (s.post enc Tryz.prog fn false true false false) := by
  refine returnsInHanded_of_change (C := Tryz.checked) own started noInit hfn witness ?_
  intro W base args ds gs before hval hW _ _
  have hW' := hW
  obtain ⟨p, q, hA, hV, rfl, _, _⟩ := hW
  rw [hvars] at hV
  obtain ⟨rfl, rfl⟩ := trodVars_none hV
  have hlen : ∀ (ts : List TypeId) (vs : List Value) (ds : List (DataW H)) (p : List MemPlace), DataW.TrodAll enc Tryz.prog W 0 (fun _ => true) true ts vs ds p → ds.length = ts.length := by
    intro ts
    induction ts with
    | nil => intro vs ds p h; obtain ⟨_, rfl, _⟩ := trodAll_nil h; rfl
    | cons t ts ih => intro vs ds p h; obtain ⟨v, vs', d, ds', p', q', rfl, rfl, rfl, _, h1⟩ := trodAll_cons h; simp [ih _ _ _ h1]
  have hs := hspec ds (hlen _ _ _ _ hA)
  refine (walk W base args ds p hval hA).mono fun e W' ⟨he, bel⟩ => ?_
  subst he
  refine ⟨_, rfl, ds, [], p ++ [], [], p, [], hW', ?_, ?_, ?_, bel.frame _, fun h => by cases h⟩
  · rw [hs, hres]
    exact trodAll_mk1 (shut_bool Tryz.underlying4 _)
  · rw [hs]
    exact trodAll_stays laidOut bel _ _ _ _ hr hA (trodAll_lt _ _ _ _ hA)
  · rw [hs, hvars]
    rfl

section
variable {H : Type} {enc : TypeId × Value → H} {P : Program} {w : World}
theorem addr_of {a : Addr} {i : Nat} {v v0 : Value} (h0 : w.cell? (a.add 0) = some v0) (h : w.cell? (a.add i) = some v) : ∃ b off, a = ⟨b, off, none⟩ ∧ w.cell? ⟨b, off + i, none⟩ = some v := by
  obtain ⟨b, off, spot⟩ := a
  have hs : spot = none := by
    have := World.cell?_spot h0
    simpa [Addr.add] using this
  subst hs
  refine ⟨b, off, rfl, ?_⟩
  unfold Addr.add at h
  by_cases hi : i = 0
  · subst hi; simpa using h
  · simpa [hi] using h
theorem ints_of_trod {t e : TypeId} {v : Value} (ht : P.underlying t = some (.slice e)) (he : P.underlying e = some (.int .i64)) (hc : P.cellsOf e = 1) {cs : List Value} (hcs : cs = [v]) {fuel : Nat}
    {x : DataW H × List MemPlace} (h : DataW.trod enc P w 0 (fun _ => true) true fuel t cs = some x) : ∃ l, Ints w v l := by
  subst hcs
  rcases open_ints ht he hc h with ⟨hcs, _⟩ | ⟨a, len, cap, zs, hcs, _, hl, hm, hz, _, hcell, _⟩
  · simp only [List.cons.injEq, and_true] at hcs
    subst hcs
    exact ⟨[], none, 0, rfl, by simp [ints], by simp [maxLen], fun i hi => by simp [ints] at hi⟩
  · simp only [List.cons.injEq, and_true] at hcs
    subst hcs
    simp only [if_true] at hz
    refine ⟨zs.take len, some a, cap, by simp [ints]; omega, by simp [ints]; omega, hm, fun i hi => ?_⟩
    have hi' : i < len ∧ i < zs.length := by simp [ints] at hi; omega
    obtain ⟨b, off, rfl, hc⟩ := addr_of (hcell 0 (by omega)) (hcell i hi'.2)
    exact ⟨b, off, rfl, by rw [hc]; simp [ints, List.getD, List.getElem?_eq_getElem hi'.2]⟩
theorem mat_of_trod {t e q : TypeId} {d : DataW H} {p : List MemPlace} {v : Value} (ht : P.underlying t = some (.slice e)) (he : P.underlying e = some (.slice q)) (hq : P.underlying q = some (.int .i64)) (ce : P.cellsOf e = 1) (cq : P.cellsOf q = 1)
    (hv : v.cells.toList = [v]) (h : DataW.Trod enc P w 0 (fun _ => true) true t v d p) : ∃ m, Mat w v m := by
  obtain ⟨fuel, h⟩ := h
  rw [hv] at h
  rcases open_slice1 ht ce h with ⟨hcs, _⟩ | ⟨a, len, cap, m, n, V, D, Pl, hcs, _, hl, hm, hmm, _, hx⟩
  · simp only [List.cons.injEq, and_true] at hcs
    subst hcs
    exact ⟨[], [], rfl, ⟨none, 0, rfl, by simp, by simp [maxLen], fun i hi => by simp at hi⟩, fun i hi => by simp at hi⟩
  · simp only [List.cons.injEq, and_true] at hcs
    subst hcs
    simp only [if_true] at hmm
    have each : ∀ i, i < len → ∃ l, Ints w (V i) l := fun i hi => by
      exact ints_of_trod he hq cq rfl (hx i (by omega)).2
    obtain ⟨L, hL⟩ := choose_lt (α := List Int) each
    refine ⟨(List.range len).map L, (List.range len).map V, by simp, ⟨some a, cap, by simp, by simpa using hl, hm, fun i hi => ?_⟩, fun i hi hi' => ?_⟩
    · have hi' : i < len := by simpa using hi
      obtain ⟨b, off, rfl, hc⟩ := addr_of (hx 0 (by omega)).1 (hx i (by omega)).1
      exact ⟨b, off, rfl, by rw [hc]; simp⟩
    · have hi' : i < len := by simpa using hi
      simpa using hL i hi'
end

end Go.Proofs.YtkohadoicebojaaGreatDoor
