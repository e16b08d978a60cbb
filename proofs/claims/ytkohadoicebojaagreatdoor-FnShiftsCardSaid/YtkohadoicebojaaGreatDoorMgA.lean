/- Contracts and plain facts that the law needs, from several texts. No statement is proved here. -/
import Derived.Test.YtkohadoicebojaaGreatDoorRows
import Derived.Test.YtkohadoicebojaaGreatDoorMem
import Derived.Test.YtkohadoicebojaaGreatDoorStrsH
import Derived.Test.YtkohadoicebojaaGreatDoorTie
import Derived.Test.YtkohadoicebojaaGreatDoorCards
import Derived.Test.YtkohadoicebojaaGreatDoorStr
import Derived.Test.YtkohadoicebojaaGreatDoorHelp
import Derived.Test.YtkohadoicebojaaGreatDoorShift
import Derived.Test.YtkohadoicebojaaGreatDoorRoot
import Derived.ProofKit
import Derived.OpenShut
import Derived.ShutString
import Derived.ChangeOld
import Derived.Deep.Slices
import Derived.HandedShaped
import Derived.Lib.SmallJoins
import Derived.Deep.Strs
import Derived.LaidMore
import Derived.Lay
import Derived.SevenTiedAt
import Derived.WalkKit
import Derived.WalkSpells
import Derived.WalkLawsBesides
import Derived.BigQuiet
import Derived.Deep.QuietTactic
import Derived.Deep.OwnRows
import Derived.Laws.Entries
import Derived.ChangeSlices
import Derived.Deep.RegionLaw
namespace Go.Proofs.YtkohadoicebojaaGreatDoor
open Go.RowKit Go.Deep Go.ChangeShapes Go.WideShapes Go.ChangeAt

theorem own : ownKnob Tryz.prog.godebug = none := by kernel_rfl
theorem laidOut : laidOutB Tryz.prog = true := by kernel_rfl
section
variable {H : Type} {enc : TypeId × Value → H} {P : Program} {W W' : World}
theorem trodAll_stays (hl : laidOutB P = true) (bel : Below W.heap.size W W') : ∀ (ts : List TypeId) (vs : List Value) (ds : List (DataW H)) (p : List MemPlace),
    ts.all (fun t => P.readableRec t && decide (t < P.types.size)) = true → DataW.TrodAll enc P W 0 (fun _ => true) true ts vs ds p → (∀ x ∈ p, x.block < W.heap.size) →
    DataW.TrodAll enc P W' 0 (fun b => decide (b < W.heap.size)) true ts vs ds p := by
  intro ts
  induction ts with
  | nil =>
    intro vs ds p _ h _
    obtain ⟨rfl, rfl, rfl⟩ := trodAll_nil h
    exact trodAll_mk0
  | cons t ts ih =>
    intro vs ds p hr h hlt
    obtain ⟨v, vs', d, ds', p', q', rfl, rfl, rfl, h0, h1⟩ := trodAll_cons h
    simp only [List.all_cons, Bool.and_eq_true, decide_eq_true_eq] at hr
    refine trodAll_cons_mk (Below.trod hl hr.1.1 hr.1.2 h0 bel fun x hx => hlt x (List.mem_append_left _ hx)) (ih _ _ _ hr.2 h1 fun x hx => hlt x (List.mem_append_right _ hx))
theorem trodAll_lt : ∀ (ts : List TypeId) (vs : List Value) (ds : List (DataW H)) (p : List MemPlace), DataW.TrodAll enc P W 0 (fun _ => true) true ts vs ds p → ∀ x ∈ p, x.block < W.heap.size := by
  intro ts
  induction ts with
  | nil =>
    intro vs ds p h
    obtain ⟨rfl, rfl, rfl⟩ := trodAll_nil h
    simp
  | cons t ts ih =>
    intro vs ds p h
    obtain ⟨v, vs', d, ds', p', q', rfl, rfl, rfl, ⟨m, h0⟩, h1⟩ := trodAll_cons h
    intro x hx
    rcases List.mem_append.1 hx with hx | hx
    · exact DataW.trod_lt m _ _ _ h0 x hx
    · exact ih _ _ _ h1 x hx
end

set_option maxRecDepth 100000 in
/-- FROM A WALK TO THE ROW's STEP, for a law: the call returns true and nothing that was there has turned. -/
theorem lifted_law {os : Os} {H : Type} {enc : TypeId × Value → H} {k : FuncId} {fn : Func} {s : ChangeSpec} (started : os.Started) (noInit : Tryz.checked.prog.inits.idxOf? k = none) (hfn : Tryz.prog.funcs[k]? = some fn)
    (witness : ∃ (w : World) (tape : Tape) (i : Input), w.os = os ∧ (w.forCall tape i).Shaped Tryz.checked.prog ∧ i.vars = [] ∧ Input.okWide Tryz.checked.prog (w.forCall tape i) .any w.heap.size k i ∧
      s.pre6 enc Tryz.checked.prog fn [] false (w.forCall tape i).memory i.args ∧ ({} : Assume).holds Tryz.checked.prog (lone (Frame.enter Tryz.checked.prog k i.args .normal) [] (w.forCall tape i)))
    (hvars : s.vars = []) (hr : fn.params.toList.all (fun t => Tryz.prog.readableRec t && decide (t < Tryz.prog.types.size)) = true) (hres : fn.resultTypes = #[4])
    (hspec : ∀ ds : List (DataW H), ds.length = fn.params.toList.length → s.fn H (ds ++ []) = { results := [.lit (.bool true)], args := ds })
    (walk : ∀ (W : World) (base : Nat) (args : Array Value) (ds : List (DataW H)) (p : List MemPlace), (∀ (j : Nat) t v, fn.params[j]? = some t → args[j]? = some v → Value.okWide Tryz.prog W .any base t v) →
      DataW.TrodAll enc Tryz.prog W 0 (fun _ => true) true fn.params.toList args.toList ds p → Calls Tryz.prog k args W fun e W' => e = .returned (.bool true) ∧ Below W.heap.size W W') :
    ReturnsInHanded {} Tryz.checked os k .any (s.pre6 enc Tryz.prog fn [] false) (s.post enc Tryz.prog fn false true false false) := by
  refine returnsInHanded_of_change (C := Tryz.checked) own started noInit hfn witness ?_
  intro W base args ds gs before hval hW _ _
  have hW' := hW
  obtain ⟨p, q, hA, hV, rfl, _, _⟩ := hW
  rw [hvars] at hV
  obtain ⟨rfl, rfl⟩ := trodVars_none hV
  have hlen : ∀ (ts : List TypeId) (vs : List Value) (ds : List (DataW H)) (p : List MemPlace), DataW.TrodAll enc Tryz.prog W 0 (fun _ => true) true ts vs ds p → ds.length = ts.length := by
    intro ts
    induction ts with
    | nil => intro vs ds p h; obtain ⟨_, rfl, _⟩ := trodAll_nil h; rfl
    | cons t ts ih => intro vs ds p h; obtain ⟨v, vs', d, ds', p', q', rfl, rfl, rfl, _, h1⟩ := trodAll_cons h; simp [ih _ _ _ h1]
  have hs := hspec ds (hlen _ _ _ _ hA)
  refine (walk W base args ds p hval hA).mono fun e W' ⟨he, bel⟩ => ?_
  subst he
  refine ⟨_, rfl, ds, [], p ++ [], [], p, [], hW', ?_, ?_, ?_, bel.frame _, fun h => by cases h⟩
  · rw [hs, hres]
    exact trodAll_mk1 (shut_bool Tryz.underlying4 _)
  · rw [hs]
    exact trodAll_stays laidOut bel _ _ _ _ hr hA (trodAll_lt _ _ _ _ hA)
  · rw [hs, hvars]
    rfl

section
variable {H : Type} {enc : TypeId × Value → H} {P : Program} {w : World}
theorem addr_of {a : Addr} {i : Nat} {v v0 : Value} (h0 : w.cell? (a.add 0) = some v0) (h : w.cell? (a.add i) = some v) : ∃ b off, a = ⟨b, off, none⟩ ∧ w.cell? ⟨b, off + i, none⟩ = some v := by
  obtain ⟨b, off, spot⟩ := a
  have hs : spot = none := by
    have := World.cell?_spot h0
    simpa [Addr.add] using this
  subst hs
  refine ⟨b, off, rfl, ?_⟩
  unfold Addr.add at h
  by_cases hi : i = 0
  · subst hi; simpa using h
  · simpa [hi] using h
theorem ints_of_trod {t e : TypeId} {v : Value} (ht : P.underlying t = some (.slice e)) (he : P.underlying e = some (.int .i64)) (hc : P.cellsOf e = 1) {cs : List Value} (hcs : cs = [v]) {fuel : Nat}
    {x : DataW H × List MemPlace} (h : DataW.trod enc P w 0 (fun _ => true) true fuel t cs = some x) : ∃ l, Ints w v l := by
  subst hcs
  rcases open_ints ht he hc h with ⟨hcs, _⟩ | ⟨a, len, cap, zs, hcs, _, hl, hm, hz, _, hcell, _⟩
  · simp only [List.cons.injEq, and_true] at hcs
    subst hcs
    exact ⟨[], none, 0, rfl, by simp [ints], by simp [maxLen], fun i hi => by simp [ints] at hi⟩
  · simp only [List.cons.injEq, and_true] at hcs
    subst hcs
    simp only [if_true] at hz
    refine ⟨zs.take len, some a, cap, by simp [ints]; omega, by simp [ints]; omega, hm, fun i hi => ?_⟩
    have hi' : i < len ∧ i < zs.length := by simp [ints] at hi; omega
    obtain ⟨b, off, rfl, hc⟩ := addr_of (hcell 0 (by omega)) (hcell i hi'.2)
    exact ⟨b, off, rfl, by rw [hc]; simp [ints, List.getD, List.getElem?_eq_getElem hi'.2]⟩
theorem mat_of_trod {t e q : TypeId} {d : DataW H} {p : List MemPlace} {v : Value} (ht : P.underlying t = some (.slice e)) (he : P.underlying e = some (.slice q)) (hq : P.underlying q = some (.int .i64)) (ce : P.cellsOf e = 1) (cq : P.cellsOf q = 1)
    (hv : v.cells.toList = [v]) (h : DataW.Trod enc P w 0 (fun _ => true) true t v d p) : ∃ m, Mat w v m := by
  obtain ⟨fuel, h⟩ := h
  rw [hv] at h
  rcases open_slice1 ht ce h with ⟨hcs, _⟩ | ⟨a, len, cap, m, n, V, D, Pl, hcs, _, hl, hm, hmm, _, hx⟩
  · simp only [List.cons.injEq, and_true] at hcs
    subst hcs
    exact ⟨[], [], rfl, ⟨none, 0, rfl, by simp, by simp [maxLen], fun i hi => by simp at hi⟩, fun i hi => by simp at hi⟩
  · simp only [List.cons.injEq, and_true] at hcs
    subst hcs
    simp only [if_true] at hmm
    have each : ∀ i, i < len → ∃ l, Ints w (V i) l := fun i hi => by
      exact ints_of_trod he hq cq rfl (hx i (by omega)).2
    obtain ⟨L, hL⟩ := choose_lt (α := List Int) each
    refine ⟨(List.range len).map L, (List.range len).map V, by simp, ⟨some a, cap, by simp, by simpa using hl, hm, fun i hi => ?_⟩, fun i hi hi' => ?_⟩
    · have hi' : i < len := by simpa using hi
      obtain ⟨b, off, rfl, hc⟩ := addr_of (hx 0 (by omega)).1 (hx i (by omega)).1
      exact ⟨b, off, rfl, by rw [hc]; simp⟩
    · have hi' : i < len := by simpa using hi
      simpa using hL i hi'
end

end Go.Proofs.YtkohadoicebojaaGreatDoor

namespace Go.Proofs.YtkohadoicebojaaGreatDoor
open Go.RowKit Go.Deep Go.ChangeShapes Go.WideShapes Go.ChangeAt Go.Joins
def StrsZ (w : World) (v : Value) (l : List ByteArray) : Prop := Strs w v l ∧ ∀ s ∈ l, s.size ≤ maxLen
section
variable {H : Type} {enc : TypeId × Value → H} {P : Program} {w : World}
theorem strs_of_trod {t e : TypeId} {v : Value} (ht : P.underlying t = some (.slice e)) (he : P.underlying e = some .string) (hc : P.cellsOf e = 1) {cs : List Value} (hcs : cs = [v]) {fuel : Nat}
    {x : DataW H × List MemPlace} (h : DataW.trod enc P w 0 (fun _ => true) true fuel t cs = some x) : ∃ l, StrsZ w v l := by
  subst hcs
  rcases open_strs ht he hc h with ⟨hcs, _⟩ | ⟨a, len, cap, m, Sx, hcs, _, hl, hm, hmm, _, hcell⟩
  · simp only [List.cons.injEq, and_true] at hcs
    subst hcs
    exact ⟨[], ⟨none, 0, rfl, by simp [strs], by simp [maxLen], fun i hi => by simp [strs] at hi⟩, fun s hs => by cases hs⟩
  · simp only [List.cons.injEq, and_true] at hcs
    subst hcs
    simp only [if_true] at hmm
    refine ⟨(List.range len).map Sx, ⟨some a, cap, by simp [strs], by simpa [strs] using hl, hm, fun i hi => ?_⟩, fun s hs => ?_⟩
    · have hi' : i < len := by simpa [strs] using hi
      obtain ⟨b, off, rfl, hc⟩ := addr_of (hcell 0 (by omega)).1 (hcell i (by omega)).1
      exact ⟨b, off, rfl, by rw [hc]; simp [strs]⟩
    · obtain ⟨i, hi, rfl⟩ := List.mem_map.1 hs
      rw [List.mem_range] at hi
      exact (hcell i (by omega)).2
theorem shift_of_trod {t te : TypeId} {f0 f1 : Field} {d : DataW H} {p : List MemPlace} {v : Value} {r : Reach} {b0 : Nat} (hs : P.underlying t = some (.struct #[f0, f1])) (hone : oneCellFields P #[f0, f1] = true) (hC : P.cellsOf t = 2)
    (h0 : P.underlying f0.type = some (.int .i64)) (h1 : P.underlying f1.type = some (.slice te)) (h2 : P.underlying te = some .string) (hc : P.cellsOf te = 1) (hv : Value.okWide P w r b0 t v) (h : DataW.Trod enc P w 0 (fun _ => true) true t v d p) :
    ∃ k a n c l, v = .agg #[.int .i64 k, .slice a n c] ∧ (Lit.int .i64 k).wf = true ∧ StrsZ w (.slice a n c) l := by
  obtain ⟨c0, c1, y0, y1, m, rfl, _, _, hy0, hy1⟩ := open_agg2 hs hone hC hv h
  obtain ⟨a, e0, _, wa⟩ := DataW.trod_int h0 hy0
  simp only [List.cons.injEq, and_true] at e0
  subst e0
  obtain ⟨l, hl⟩ := strs_of_trod h1 h2 hc rfl hy1
  obtain ⟨a1, n1, k1, rfl, -⟩ := hl.1.open
  exact ⟨a, a1, n1, k1, l, rfl, wa, hl⟩
end
set_option maxRecDepth 100000 in
/-- FROM A WALK TO THE ROW's STEP, for a law, the world's shape being known. -/
theorem lifted_law_shaped {os : Os} {H : Type} {enc : TypeId × Value → H} {k : FuncId} {fn : Func} {s : ChangeSpec} (started : os.Started) (noInit : Tryz.checked.prog.inits.idxOf? k = none) (hfn : Tryz.prog.funcs[k]? = some fn)
    (witness : ∃ (w : World) (tape : Tape) (i : Input), w.os = os ∧ (w.forCall tape i).Shaped Tryz.checked.prog ∧ i.vars = [] ∧ Input.okWide Tryz.checked.prog (w.forCall tape i) .any w.heap.size k i ∧
      s.pre6 enc Tryz.checked.prog fn [] false (w.forCall tape i).memory i.args ∧ ({} : Assume).holds Tryz.checked.prog (lone (Frame.enter Tryz.checked.prog k i.args .normal) [] (w.forCall tape i)))
    (hvars : s.vars = []) (hr : fn.params.toList.all (fun t => Tryz.prog.readableRec t && decide (t < Tryz.prog.types.size)) = true) (hres : fn.resultTypes = #[4])
    (hspec : ∀ ds : List (DataW H), ds.length = fn.params.toList.length → s.fn H (ds ++ []) = { results := [.lit (.bool true)], args := ds })
    (walk : ∀ (W : World) (base : Nat) (args : Array Value) (ds : List (DataW H)) (p : List MemPlace), W.ShapedOpen Tryz.prog → (∀ (j : Nat) t v, fn.params[j]? = some t → args[j]? = some v → Value.okWide Tryz.prog W .any base t v) →
      DataW.TrodAll enc Tryz.prog W 0 (fun _ => true) true fn.params.toList args.toList ds p → Calls Tryz.prog k args W fun e W' => e = .returned (.bool true) ∧ Below W.heap.size W W') :
    ReturnsInHanded {} Tryz.checked os k .any (s.pre6 enc Tryz.prog fn [] false) (s.post enc Tryz.prog fn false true false false) := by
  refine returnsInHanded_of_change_shaped (C := Tryz.checked) own started noInit hfn witness ?_
  intro W base args ds gs before hval hW _ _ hsh _
  have hW' := hW
  obtain ⟨p, q, hA, hV, rfl, _, _⟩ := hW
  rw [hvars] at hV
  obtain ⟨rfl, rfl⟩ := trodVars_none hV
  have hlen : ∀ (ts : List TypeId) (vs : List Value) (ds : List (DataW H)) (p : List MemPlace), DataW.TrodAll enc Tryz.prog W 0 (fun _ => true) true ts vs ds p → ds.length = ts.length := by
    intro ts
    induction ts with
    | nil => intro vs ds p h; obtain ⟨_, rfl, _⟩ := trodAll_nil h; rfl
    | cons t ts ih => intro vs ds p h; obtain ⟨v, vs', d, ds', p', q', rfl, rfl, rfl, _, h1⟩ := trodAll_cons h; simp [ih _ _ _ h1]
  have hs := hspec ds (hlen _ _ _ _ hA)
  refine (walk W base args ds p hsh hval hA).mono fun e W' ⟨he, bel⟩ => ?_
  subst he
  refine ⟨_, rfl, ds, [], p ++ [], [], p, [], hW', ?_, ?_, ?_, bel.frame _, fun h => by cases h⟩
  · rw [hs, hres]
    exact trodAll_mk1 (shut_bool Tryz.underlying4 _)
  · rw [hs]
    exact trodAll_stays laidOut bel _ _ _ _ hr hA (trodAll_lt _ _ _ _ hA)
  · rw [hs, hvars]
    rfl
end Go.Proofs.YtkohadoicebojaaGreatDoor

namespace Go.Proofs.YtkohadoicebojaaGreatDoor
open Go.RowKit Go.Deep Go.ChangeShapes Go.WideShapes Go.ChangeAt Go.Joins
section
variable {H : Type} {enc : TypeId × Value → H}
theorem returns_shaped_and {a : Assume} {C : Checked} {os : Os} {f : FuncId} {fn : Func} {s : ChangeSpec} {conds : List PathCond} {apart fresh handsOn again : Bool} {X : World → Array Value → Prop}
    (hX : ∀ (w w' : World) (args : Array Value), w.heap = w'.heap → X w args → X w' args)
    (own : ownKnob C.prog.godebug = none) (started : os.Started) (noInit : C.prog.inits.idxOf? f = none) (hfn : C.prog.funcs[f]? = some fn)
    (witness : ∃ (w : World) (tape : Tape) (i : Input), w.os = os ∧ (w.forCall tape i).Shaped C.prog ∧ i.vars = [] ∧ Input.okWide C.prog (w.forCall tape i) .any w.heap.size f i ∧
      ((s.pre enc C.prog fn conds apart (w.forCall tape i).memory i.args ∧ X (w.forCall tape i).memory i.args) ∧ sizedMet enc C.prog fn (OpenSpec.ofChange s) apart (w.forCall tape i).memory i.args) ∧ a.holds C.prog (lone (Frame.enter C.prog f i.args .normal) [] (w.forCall tape i)))
    (contract : ∀ (W : World) (base : Nat) (args : Array Value) (ds gs : List (DataW H)) (before : List MemPlace),
      (∀ (j : Nat) t v, fn.params[j]? = some t → args[j]? = some v → Value.okWide C.prog W .any base t v) →
      DataW.Whole enc C.prog fn.params.toList s.vars apart W args.toList ds gs before →
      conds.all (PathCond.test C.prog ⟨fn.params.toList, ds, s.plain.varTypes C.prog, gs⟩) = true → X W args → W.ShapedOpen C.prog →
      Calls C.prog f args W fun e W' => ∃ v, e = .returned v ∧ s.post enc C.prog fn apart fresh handsOn again W args v W') :
    ReturnsInHanded a C os f .any (fun w args => (s.pre enc C.prog fn conds apart w args ∧ X w args) ∧ sizedMet enc C.prog fn (OpenSpec.ofChange s) apart w args) (s.post enc C.prog fn apart fresh handsOn again) := by
  refine returnsInHanded_of_calls own started noInit witness ?_
  intro w tape i _ hsh _ hok hpre hholds
  obtain ⟨_, _, _, fn', hfn', _, _, _, _, hval⟩ := hok
  have e : fn' = fn := Option.some.inj (hfn'.symm.trans hfn)
  subst e
  obtain ⟨⟨⟨ds, gs, before, hw, hc⟩, hx⟩, hz⟩ := hpre
  have hw' := DataW.Whole.of_heap (w' := w.forCall tape i) (by rfl) hw
  refine (contract (w.forCall tape i) w.heap.size i.args ds gs before hval hw' hc (hX _ _ _ (by rfl) hx) hsh).mono fun e W' ⟨v, he, hp⟩ => ?_
  subst he
  exact ChangeSpec.post_blind hp
end
set_option maxRecDepth 100000 in
/-- FROM A WALK TO THE ROW's STEP, for a law whose row lists variables. -/
theorem lifted_law_door {os : Os} {H : Type} {enc : TypeId × Value → H} {k : FuncId} {fn : Func} {s : ChangeSpec} {lst : List (String × DataW Unit)} (started : os.Started) (noInit : Tryz.checked.prog.inits.idxOf? k = none) (hfn : Tryz.prog.funcs[k]? = some fn)
    (witness : ∃ (w : World) (tape : Tape) (i : Input), w.os = os ∧ (w.forCall tape i).Shaped Tryz.checked.prog ∧ i.vars = [] ∧ Input.okWide Tryz.checked.prog (w.forCall tape i) .any w.heap.size k i ∧
      ((s.pre enc Tryz.checked.prog fn [] false (w.forCall tape i).memory i.args ∧ laidMetH Tryz.checked.prog lst (w.forCall tape i).memory) ∧ sizedMet enc Tryz.checked.prog fn (OpenSpec.ofChange s) false (w.forCall tape i).memory i.args) ∧ ({} : Assume).holds Tryz.checked.prog (lone (Frame.enter Tryz.checked.prog k i.args .normal) [] (w.forCall tape i)))
    (hvars : s.vars = []) (hr : fn.params.toList.all (fun t => Tryz.prog.readableRec t && decide (t < Tryz.prog.types.size)) = true) (hres : fn.resultTypes = #[4])
    (hspec : ∀ ds : List (DataW H), ds.length = fn.params.toList.length → s.fn H (ds ++ []) = { results := [.lit (.bool true)], args := ds })
    (walk : ∀ (W : World) (base : Nat) (args : Array Value) (ds : List (DataW H)) (p : List MemPlace), W.ShapedOpen Tryz.prog → laidMetH Tryz.prog lst W → (∀ (j : Nat) t v, fn.params[j]? = some t → args[j]? = some v → Value.okWide Tryz.prog W .any base t v) →
      DataW.TrodAll enc Tryz.prog W 0 (fun _ => true) true fn.params.toList args.toList ds p → Calls Tryz.prog k args W fun e W' => e = .returned (.bool true) ∧ Below W.heap.size W W') :
    ReturnsInHanded {} Tryz.checked os k .any (fun w args => (s.pre enc Tryz.prog fn [] false w args ∧ laidMetH Tryz.prog lst w) ∧ sizedMet enc Tryz.prog fn (OpenSpec.ofChange s) false w args) (s.post enc Tryz.prog fn false true false false) := by
  refine returns_shaped_and (C := Tryz.checked) (X := fun w _ => laidMetH Tryz.prog lst w) (fun _ _ _ hh h => h.of_heap hh) own started noInit hfn witness ?_
  intro W base args ds gs before hval hW _ hL hsh
  have hW' := hW
  obtain ⟨p, q, hA, hV, rfl, _, _⟩ := hW
  rw [hvars] at hV
  obtain ⟨rfl, rfl⟩ := trodVars_none hV
  have hlen : ∀ (ts : List TypeId) (vs : List Value) (ds : List (DataW H)) (p : List MemPlace), DataW.TrodAll enc Tryz.prog W 0 (fun _ => true) true ts vs ds p → ds.length = ts.length := by
    intro ts
    induction ts with
    | nil => intro vs ds p h; obtain ⟨_, rfl, _⟩ := trodAll_nil h; rfl
    | cons t ts ih => intro vs ds p h; obtain ⟨v, vs', d, ds', p', q', rfl, rfl, rfl, _, h1⟩ := trodAll_cons h; simp [ih _ _ _ h1]
  have hs := hspec ds (hlen _ _ _ _ hA)
  refine (walk W base args ds p hsh hL hval hA).mono fun e W' ⟨he, bel⟩ => ?_
  subst he
  refine ⟨_, rfl, ds, [], p ++ [], [], p, [], hW', ?_, ?_, ?_, bel.frame _, fun h => by cases h⟩
  · rw [hs, hres]
    exact trodAll_mk1 (shut_bool Tryz.underlying4 _)
  · rw [hs]
    exact trodAll_stays laidOut bel _ _ _ _ hr hA (trodAll_lt _ _ _ _ hA)
  · rw [hs, hvars]
    rfl
end Go.Proofs.YtkohadoicebojaaGreatDoor

namespace Go.Proofs.YtkohadoicebojaaGreatDoor
open Go.RowKit Go.Deep
def BytesV (w : World) (v : Value) (l : List UInt8) : Prop := Row w v (bv l)
def curF (v : Value) (i : Nat) (h : Int) : Nat → Value := fun j => if j = 0 then v else if j = 1 then .int .i64 i else .int .i64 h
/-- The cursor in block N: the code, how far it is read, a number. -/
def Cur (w0 : World) (N : Nat) (v : Value) (n : Nat) (w : World) : Prop :=
  w0.heap.size ≤ N ∧ Below w0.heap.size w0 w ∧ ∃ (i : Nat) (h : Int), i ≤ n ∧ w.rowIs N 94 3 (curF v i h)
theorem Cur.keep {w0 w w' : World} {N n : Nat} {v : Value} (h : Cur w0 N v n w) (hb : Below w.heap.size w w') : Cur w0 N v n w' := by
  obtain ⟨h1, h2, i, k, h3, h4⟩ := h
  exact ⟨h1, h2.trans (hb.mono h2.size), i, k, h3, h4.of_block (hb.block N h4.lt)⟩
theorem and_bd (x : Int) : ∃ r : Nat, bits .and .i64 x 255 = (r : Int) ∧ r ≤ 255 := by
  refine ⟨(BitVec.ofInt 64 x &&& BitVec.ofInt 64 255).toNat, ?_, ?_⟩
  · have hle : (BitVec.ofInt 64 x &&& BitVec.ofInt 64 255).toNat ≤ 255 := by
      rw [BitVec.toNat_and]; exact Nat.and_le_right
    show IntKind.i64.wrap ((BitVec.ofInt 64 x &&& BitVec.ofInt 64 255).toNat : Int) = _
    generalize (BitVec.ofInt 64 x &&& BitVec.ofInt 64 255).toNat = q at hle ⊢
    rw [IntKind.wrap_i64]; omega
  · rw [BitVec.toNat_and]; exact Nat.and_le_right
theorem grow_set (w : World) (N k : Nat) (u : Value) : w.grownBy (w.setCell ⟨N, k, none⟩ u) (some N) :=
  ⟨rfl, rfl, rfl, by simp, fun j _ hne => blk_setCell_other w _ u j (fun e => hne (by rw [e]))⟩
theorem grow_drew (w : World) (n : Nat) (b : Option Nat) : w.grownBy (w.drewN n) b := ⟨rfl, rfl, rfl, Nat.le_refl _, fun _ _ _ => rfl⟩
set_option maxRecDepth 10000 in
set_option maxHeartbeats 400000 in
theorem l1Byte (w0 : World) (N n : Nat) (v : Value) (l : List UInt8) (w : World) (hv : BytesV w0 v l) (hl : l.length = n) (hC : Cur w0 N v n w) :
    Calls Tryz.prog 101 #[.pointer (some ⟨N, 0, none⟩)] w fun e w' => ∃ x : Nat, e = .returned (.int .i64 x) ∧ x ≤ 255 ∧ Cur w0 N v n w' ∧ w.grownBy w' (some N) := by
  obtain ⟨hN, hb, i, h, hi, hr⟩ := hC
  obtain ⟨z, hz⟩ : ∃ z, wrap64 (wrap64 (h * 6364136223846793005) + 1442695040888963407) = z := ⟨_, rfl⟩
  obtain ⟨x, hx, hx2⟩ := and_bd (bits .xor .i64 (z / 8589934592) (z / 35184372088832))
  have c2 : w.cell? ⟨N, 2, none⟩ = some (.int .i64 h) := hr.cell (i := 2) (by omega)
  have f2 := hr.frozen 2
  have hr1 := hr.set 2 (.int .i64 z)
  have hb1 : Below w0.heap.size w0 (w.setCell ⟨N, 2, none⟩ (.int .i64 z)) := hb.setCell hN _
  have hg1 := grow_set w N 2 (.int .i64 z)
  have d2 : (w.setCell ⟨N, 2, none⟩ (.int .i64 z)).cell? ⟨N, 2, none⟩ = some (.int .i64 z) := hr1.cell (i := 2) (by omega)
  obtain ⟨a, cap, rfl, hn, HC⟩ := Row.open hv
  have hlen : (bv l).length = n := by rw [bv_length, hl]
  rw [hlen] at hr hr1 hn ⊢
  clear hr
  obtain ⟨w1, hw1⟩ : ∃ w1, w.setCell ⟨N, 2, none⟩ (.int .i64 z) = w1 := ⟨_, rfl⟩
  rw [hw1] at hr1 hb1 hg1 d2
  have d0 : w1.cell? ⟨N, 0, none⟩ = some (.slice a n cap) := hr1.cell (i := 0) (by omega)
  have d1 : w1.cell? ⟨N, 1, none⟩ = some (.int .i64 i) := hr1.cell (i := 1) (by omega)
  have g1 := hr1.frozen 1
  go_enter Tryz.func101, Tryz.ntmps101
  go_wp2
  go_quiet (fail)
  go_wp2
  go_quiet (fail)
  by_cases hin : i < n
  · obtain ⟨b, off, e1, hcell⟩ := HC.out i (by rw [hlen]; exact hin)
    subst e1
    obtain ⟨c, hc⟩ : ∃ c, l[i]'(by omega) = c := ⟨_, rfl⟩
    have hcv : (bv l)[i]'(by rw [hlen]; exact hin) = .int .u8 (c.toNat : Int) := by simp [bv, hc]
    rw [hcv] at hcell
    have hcell1 := cell_keep hb1 hcell
    have hcb : (c.toNat : Int) < 256 := by have := c.toNat_lt; omega
    obtain ⟨y, hy, hy2⟩ := and_bd ((x : Int) + (c.toNat : Int))
    have hr2 := hr1.set 1 (.int .i64 ((i : Int) + 1))
    go_wp2
    go_quiet (fail)
    go_wp2
    go_ret
    exact ⟨y, rfl, hy2, ⟨hN, (hb1.trans (Go.Joins.below_draws _ _ _)).setCell hN _, i + 1, z, by omega, ((World.rowIs.of_block hr1 rfl).set 1 _).congr fun j hj => by
      have : j = 0 ∨ j = 1 ∨ j = 2 := by omega
      rcases this with rfl | rfl | rfl <;> simp [curF]⟩, (hg1.trans (grow_drew _ _ _)).trans (grow_set _ _ _ _)⟩
  · go_wp2
    go_ret
    exact ⟨x, rfl, hx2, ⟨hN, (hb1.trans (Go.Joins.below_draws _ _ _)).trans (Go.Joins.below_draws _ _ _), i, z, hi, (hr1.of_block rfl).congr fun j hj => by
      have : j = 0 ∨ j = 1 ∨ j = 2 := by omega
      rcases this with rfl | rfl | rfl <;> rfl⟩, (hg1.trans (grow_drew _ _ _)).trans (grow_drew _ _ _)⟩
set_option maxRecDepth 10000 in
set_option maxHeartbeats 400000 in
theorem l1Below (w0 : World) (N n : Nat) (v : Value) (l : List UInt8) (w : World) (hv : BytesV w0 v l) (hl : l.length = n) (hC : Cur w0 N v n w) (m : Nat) (hm : 1 ≤ m) (hm2 : m ≤ 4000000000) :
    Calls Tryz.prog 56 #[.pointer (some ⟨N, 0, none⟩), .int .i64 m] w fun e w' => ∃ x : Nat, e = .returned (.int .i64 x) ∧ x < m ∧ Cur w0 N v n w' ∧ w.grownBy w' (some N) := by
  by_cases h256 : m ≤ 256
  · go_enter Tryz.func56, Tryz.ntmps56
    go_wp2_with fail
    refine (l1Byte w0 N n v l _ hv hl hC).mono ?_
    rintro e w1 ⟨x, rfl, hx, hC1, hg1⟩
    obtain ⟨r, hr⟩ : ∃ r, x % m = r := ⟨_, rfl⟩
    have hrm : r < m := by rw [← hr]; exact Nat.mod_lt _ (by omega)
    have hmod : (x : Int) % (m : Int) = (r : Int) := by rw [← Int.natCast_emod, hr]
    have hmod2 : Int.tmod (x : Int) (m : Int) = (r : Int) := by rw [Int.tmod_eq_emod_of_nonneg (by omega), hmod]
    go_wp2
    go_ret
    exact ⟨r, rfl, hrm, hC1, hg1⟩
  · go_enter Tryz.func56, Tryz.ntmps56
    go_wp2_with fail
    refine (l1Byte w0 N n v l _ hv hl hC).mono ?_
    rintro e w1 ⟨x, rfl, hx, hC1, hg1⟩
    go_wp2_with fail
    refine (l1Byte w0 N n v l _ hv hl hC1).mono ?_
    rintro e w2 ⟨y, rfl, hy, hC2, hg2⟩
    go_wp2_with fail
    refine (l1Byte w0 N n v l _ hv hl hC2).mono ?_
    rintro e w3 ⟨z, rfl, hz, hC3, hg3⟩
    go_wp2_with fail
    refine (l1Byte w0 N n v l _ hv hl hC3).mono ?_
    rintro e w4 ⟨u, rfl, hu, hC4, hg4⟩
    obtain ⟨s, hs⟩ : ∃ s, x * 16777216 + y * 65536 + z * 256 + u = s := ⟨_, rfl⟩
    have hs2 : s ≤ 4294967295 := by omega
    have hsI : (x : Int) * 16777216 + (y : Int) * 65536 + (z : Int) * 256 + (u : Int) = (s : Int) := by omega
    obtain ⟨r, hr⟩ : ∃ r, s % m = r := ⟨_, rfl⟩
    have hrm : r < m := by rw [← hr]; exact Nat.mod_lt _ (by omega)
    have hmod : (s : Int) % (m : Int) = (r : Int) := by rw [← Int.natCast_emod, hr]
    have hmod2 : Int.tmod (s : Int) (m : Int) = (r : Int) := by rw [Int.tmod_eq_emod_of_nonneg (by omega), hmod]
    clear hs
    go_wp2
    go_ret
    exact ⟨r, rfl, hrm, hC4, ((hg1.trans hg2).trans hg3).trans hg4⟩
set_option maxRecDepth 10000 in
set_option maxHeartbeats 400000 in
theorem l1Pick (w0 : World) (N n : Nat) (v : Value) (l : List UInt8) (w : World) (hv : BytesV w0 v l) (hl : l.length = n) (hC : Cur w0 N v n w) (u : Nat) (hu : u ≠ N) (L : List ByteArray) (m : Nat) (hL : L.length = m) (hm : 1 ≤ m) (hm2 : m ≤ 1000)
    (hc : ∀ j x, L[j]? = some x → w.cell? ⟨u, j, none⟩ = some (.string x)) (cap : Nat) :
    Calls Tryz.prog 103 #[.pointer (some ⟨N, 0, none⟩), .slice (some ⟨u, 0, none⟩) m cap] w fun e w' => ∃ x, e = .returned (.string x) ∧ x ∈ L ∧ Cur w0 N v n w' ∧ w.grownBy w' (some N) := by
  have HC := Lib.hid hc; clear hc
  go_enter Tryz.func103, Tryz.ntmps103
  go_wp2_with fail
  refine (l1Below w0 N n v l _ hv hl hC m hm (by omega)).mono ?_
  rintro e w1 ⟨j, rfl, hj, hC1, hg1⟩
  obtain ⟨x, hx⟩ : ∃ x, L[j]? = some x := ⟨_, List.getElem?_eq_getElem (by omega)⟩
  have hcell : w1.cell? ⟨u, j, none⟩ = some (.string x) := hg1.cell (HC.out j x hx) (fun e => hu (Option.some.inj e))
  have hmem := List.mem_of_getElem? hx
  go_wp2
  go_ret
  exact ⟨x, rfl, hmem, hC1, hg1⟩
set_option maxRecDepth 10000 in
set_option maxHeartbeats 400000 in
theorem l1PickInt (w0 : World) (N n : Nat) (v : Value) (l : List UInt8) (w : World) (hv : BytesV w0 v l) (hl : l.length = n) (hC : Cur w0 N v n w) (u : Nat) (hu : u ≠ N) (L : List Int) (m : Nat) (hL : L.length = m) (hm : 1 ≤ m) (hm2 : m ≤ 1000)
    (hc : ∀ j x, L[j]? = some x → w.cell? ⟨u, j, none⟩ = some (.int .i64 x)) (cap : Nat) :
    Calls Tryz.prog 57 #[.pointer (some ⟨N, 0, none⟩), .slice (some ⟨u, 0, none⟩) m cap] w fun e w' => ∃ x, e = .returned (.int .i64 x) ∧ x ∈ L ∧ Cur w0 N v n w' ∧ w.grownBy w' (some N) := by
  have HC := Lib.hid hc; clear hc
  go_enter Tryz.func57, Tryz.ntmps57
  go_wp2_with fail
  refine (l1Below w0 N n v l _ hv hl hC m hm (by omega)).mono ?_
  rintro e w1 ⟨j, rfl, hj, hC1, hg1⟩
  obtain ⟨x, hx⟩ : ∃ x, L[j]? = some x := ⟨_, List.getElem?_eq_getElem (by omega)⟩
  have hcell : w1.cell? ⟨u, j, none⟩ = some (.int .i64 x) := hg1.cell (HC.out j x hx) (fun e => hu (Option.some.inj e))
  have hmem := List.mem_of_getElem? hx
  go_wp2
  go_ret
  exact ⟨x, rfl, hmem, hC1, hg1⟩
set_option maxRecDepth 100000 in
set_option maxHeartbeats 400000 in
theorem l1New (v : Value) (l : List UInt8) (w : World) (hv : BytesV w v l) :
    Calls Tryz.prog 54 #[v] w fun e w' => ∃ N, e = .returned (.pointer (some ⟨N, 0, none⟩)) ∧ Cur w N v l.length w' ∧ Below w.heap.size w w' := by
  obtain ⟨n, hl⟩ : ∃ n, l.length = n := ⟨_, rfl⟩
  obtain ⟨a, cap, rfl, hn, HC⟩ := Row.open hv
  have hlen : (bv l).length = n := by rw [bv_length, hl]
  have HL := Lib.hid hlen
  rw [hl]
  rw [hlen] at hn ⊢
  go_enter Tryz.func54, Tryz.ntmps54
  go_wp2
  go_loop [3, 4] (fun q i => ∃ (j : Nat) (h : Int), j ≤ n ∧ i = .int .i64 j ∧ q = .int .i64 h) (fun _ i => n - (intOf i).toNat)
  case atStart => exact ⟨0, _, Nat.zero_le _, rfl, rfl⟩
  case round =>
    obtain ⟨j, h, hj, rfl, rfl⟩ := hrel
    have fin : Cur w w.heap.size (.slice a n cap) n (w.alloc (.cells #[.slice a n cap, .int .i64 0, .int .i64 h] 94)) := ⟨Nat.le_refl _, below_alloc _ _, 0, h, Nat.zero_le _, World.rowIs_alloc w #[.slice a n cap, .int .i64 0, .int .i64 h] _ _ fun i hi => by
      have : i = 0 ∨ i = 1 ∨ i = 2 := by simp at hi; omega
      rcases this with rfl | rfl | rfl <;> rfl⟩
    by_cases hlt : j < n
    · by_cases h4 : (j : Int) < 4000
      · obtain ⟨b, off, e1, hcell⟩ := HC.out j (by rw [HL.out]; exact hlt)
        subst e1
        obtain ⟨c, hc⟩ : ∃ c, l[j]'(by omega) = c := ⟨_, rfl⟩
        have hcv : (bv l)[j]'(by rw [HL.out]; exact hlt) = .int .u8 (c.toNat : Int) := by simp [bv, hc]
        rw [hcv] at hcell
        have hcb : (c.toNat : Int) < 256 := by have := c.toNat_lt; omega
        clear fin
        go_wp2
        go_round
        case rel => exact ⟨j + 1, _, by omega, by go_num, rfl⟩
        case measure => simp [intOf]; omega
      · go_wp2
        go_ret
        exact ⟨_, rfl, fin, below_alloc _ _⟩
    · go_wp2
      go_ret
      exact ⟨_, rfl, fin, below_alloc _ _⟩
end Go.Proofs.YtkohadoicebojaaGreatDoor

namespace Go.Proofs.YtkohadoicebojaaGreatDoor
open Go.RowKit Go.Deep Go.ChangeShapes Go.WideShapes Go.ChangeAt
theorem byte_wf {x : Int} (wx : (Lit.int .u8 x).wf = true) : 0 ≤ x ∧ x ≤ 255 := by
  have hx : IntKind.u8.min ≤ x ∧ x ≤ IntKind.u8.max := by simpa [Lit.wf] using wx
  have h1 : IntKind.u8.min = 0 := rfl
  have h2 : IntKind.u8.max = 255 := rfl
  rwa [h1, h2] at hx
def u8s (zs : List Int) : List UInt8 := zs.map fun z => UInt8.ofNat z.toNat
theorem bv_u8s {zs : List Int} (h : ∀ z ∈ zs, 0 ≤ z ∧ z ≤ 255) : bv (u8s zs) = zs.map fun z => Value.int .u8 z := by
  unfold bv u8s
  rw [List.map_map]
  refine List.map_congr_left fun z hz => ?_
  obtain ⟨h1, h2⟩ := h z hz
  obtain ⟨n, rfl⟩ : ∃ n : Nat, z = n := ⟨z.toNat, by omega⟩
  show Value.int .u8 (((UInt8.ofNat n).toNat : Nat) : Int) = _
  have : (UInt8.ofNat n).toNat = n := by simp [UInt8.toNat_ofNat']; omega
  rw [this]
section
variable {H : Type} {enc : TypeId × Value → H} {P : Program} {w : World}
theorem bytes_of_trod {t e : TypeId} {v : Value} (ht : P.underlying t = some (.slice e)) (he : P.underlying e = some (.int .u8)) (hc : P.cellsOf e = 1) {cs : List Value} (hcs : cs = [v]) {fuel : Nat}
    {x : DataW H × List MemPlace} (h : DataW.trod enc P w 0 (fun _ => true) true fuel t cs = some x) : ∃ l, BytesV w v l := by
  subst hcs
  rcases open_ints ht he hc h with ⟨hcs, _⟩ | ⟨a, len, cap, zs, hcs, _, hl, hm, hz, _, hcell, hwf⟩
  · simp only [List.cons.injEq, and_true] at hcs
    subst hcs
    exact ⟨[], none, 0, rfl, by simp [bv], by simp [maxLen], fun i hi => by simp [bv] at hi⟩
  · simp only [List.cons.injEq, and_true] at hcs
    subst hcs
    simp only [if_true] at hz
    have hb := bv_u8s (zs := zs.take len) fun z hz => byte_wf (hwf z (List.mem_of_mem_take hz))
    refine ⟨u8s (zs.take len), ?_⟩
    unfold BytesV
    rw [hb]
    refine ⟨some a, cap, by simp; omega, by simp; omega, hm, fun i hi => ?_⟩
    have hi' : i < len ∧ i < zs.length := by simp at hi; omega
    obtain ⟨b, off, rfl, hc⟩ := addr_of (hcell 0 (by omega)) (hcell i hi'.2)
    exact ⟨b, off, rfl, by rw [hc]; simp [List.getD, List.getElem?_eq_getElem hi'.2]⟩
end
end Go.Proofs.YtkohadoicebojaaGreatDoor

namespace Go.Proofs.YtkohadoicebojaaGreatDoor
open Go.RowKit Go.Deep
set_option maxRecDepth 10000 in
set_option maxHeartbeats 400000 in
theorem bigC (v : Value) (l : List UInt8) (w : World) (hv : BytesV w v l) :
    Calls Tryz.prog 5 #[v] w fun e w' => e = .returned (.bool (decide (1048576 < (l.length : Int)))) ∧ w = w' := by
  obtain ⟨a, cap, rfl, hn, HC⟩ := Row.open hv
  rw [bv_length] at hn ⊢
  obtain ⟨n, hl⟩ : ∃ n, l.length = n := ⟨_, rfl⟩
  rw [hl] at hn ⊢
  clear HC hv
  go_enter Tryz.func5, Tryz.ntmps5
  go_wp2
  go_ret
  exact ⟨rfl, rfl⟩
set_option maxRecDepth 10000 in
set_option maxHeartbeats 400000 in
theorem sameTexts (v v' : Value) (l l' : List ByteArray) (w : World) (h : Strs w v l) (h' : Strs w v' l') :
    Calls Tryz.prog 35 #[v, v'] w fun e w' => e = .returned (.bool (same l l')) ∧ Drawn w w' := by
  obtain ⟨a, n, cap, rfl, HL, hn, HC⟩ := h.open
  obtain ⟨a', n', cap', rfl, HL', hn', HC'⟩ := h'.open
  by_cases hne : n = n'
  · subst hne
    go_enter Tryz.func35, Tryz.ntmps35
    go_wp2
    go_loopw [5] (fun i wr => (∃ j : Nat, j ≤ n ∧ i = .int .i64 j ∧ Hid (l.take j = l'.take j)) ∧ Drawn w wr) (fun i _ => n - (intOf i).toNat)
    case atStart => exact ⟨⟨0, Nat.zero_le _, rfl, Lib.hid rfl⟩, Drawn.refl _⟩
    case round =>
      obtain ⟨⟨j, hj, rfl, HT⟩, hd⟩ := hrel
      by_cases hlt : j < n
      · obtain ⟨b, off, x, rfl, hc, HX⟩ := HC.out j hlt
        obtain ⟨b', off', x', rfl, hc', HX'⟩ := HC'.out j hlt
        have hc1 := hd.cell hc
        have hc1' := hd.cell hc'
        by_cases hx : x = x'
        · subst hx
          go_wp2
          go_quiet (fail)
          go_wp2
          go_roundw
          case rel => exact ⟨⟨j + 1, by omega, by go_num, Lib.hid (take_eq_succ HT.out HX.out HX'.out rfl)⟩, hd.drewN _⟩
          case measure => simp [intOf]; omega
        · have hx2 := beq_toList_ne hx
          have hx3 := bne_toList_ne hx
          go_wp2
          go_quiet (fail)
          go_wp2
          go_ret
          exact ⟨ret_bool (same_ne (ne_of_get HX.out HX'.out hx)).symm, hd.drewN _⟩
      · go_wp2
        go_ret
        exact ⟨ret_bool (same_eq (eq_of_take_all HL.out HL'.out HT.out hlt)).symm, hd⟩
  · go_enter Tryz.func35, Tryz.ntmps35
    go_wp2
    go_ret
    exact ⟨ret_bool (same_ne (ne_of_len HL.out HL'.out hne)).symm, Drawn.refl _⟩
set_option maxHeartbeats 400000 in
theorem sameInts (v v' : Value) (l l' : List Int) (w : World) (h : Ints w v l) (h' : Ints w v' l') :
    Calls Tryz.prog 67 #[v, v'] w fun e w' => e = .returned (.bool (same l l')) ∧ Drawn w w' := by
  obtain ⟨a, n, cap, rfl, HL, hn, HC⟩ := h.open
  obtain ⟨a', n', cap', rfl, HL', hn', HC'⟩ := h'.open
  by_cases hne : n = n'
  · subst hne
    go_enter Tryz.func67, Tryz.ntmps67
    go_wp2
    go_loopw [5] (fun i wr => (∃ j : Nat, j ≤ n ∧ i = .int .i64 j ∧ Hid (l.take j = l'.take j)) ∧ Drawn w wr) (fun i _ => n - (intOf i).toNat)
    case atStart => exact ⟨⟨0, Nat.zero_le _, rfl, Lib.hid rfl⟩, Drawn.refl _⟩
    case round =>
      obtain ⟨⟨j, hj, rfl, HT⟩, hd⟩ := hrel
      by_cases hlt : j < n
      · obtain ⟨b, off, x, rfl, hc, HX⟩ := HC.out j hlt
        obtain ⟨b', off', x', rfl, hc', HX'⟩ := HC'.out j hlt
        have hc1 := hd.cell hc
        have hc1' := hd.cell hc'
        go_wp2
        go_quiet (fail)
        go_wp2
        · go_ret
          exact ⟨ret_bool (same_ne (ne_of_get HX.out HX'.out (by simp_all))).symm, hd.drewN _⟩
        · go_roundw
          case rel => exact ⟨⟨j + 1, by omega, by go_num, Lib.hid (take_eq_succ HT.out HX.out HX'.out (by simp_all))⟩, hd.drewN _⟩
          case measure => simp [intOf]; omega
      · go_wp2
        go_ret
        exact ⟨ret_bool (same_eq (eq_of_take_all HL.out HL'.out HT.out hlt)).symm, hd⟩
  · go_enter Tryz.func67, Tryz.ntmps67
    go_wp2
    go_ret
    exact ⟨ret_bool (same_ne (ne_of_len HL.out HL'.out hne)).symm, Drawn.refl _⟩
set_option maxHeartbeats 400000 in
theorem sameLists (v v' : Value) (l l' : List (List Int)) (w : World) (h : Mat w v l) (h' : Mat w v' l') :
    Calls Tryz.prog 15 #[v, v'] w fun e w' => e = .returned (.bool (same l l')) ∧ Drawn w w' := by
  obtain ⟨a, n, cap, rfl, HL, hn, HC⟩ := h.open
  obtain ⟨a', n', cap', rfl, HL', hn', HC'⟩ := h'.open
  by_cases hne : n = n'
  · subst hne
    go_enter Tryz.func15, Tryz.ntmps15
    go_wp2
    go_loopw [5] (fun i wr => (∃ j : Nat, j ≤ n ∧ i = .int .i64 j ∧ Hid (l.take j = l'.take j)) ∧ Drawn w wr) (fun i _ => n - (intOf i).toNat)
    case atStart => exact ⟨⟨0, Nat.zero_le _, rfl, Lib.hid rfl⟩, Drawn.refl _⟩
    case round =>
      obtain ⟨⟨j, hj, rfl, HT⟩, hd⟩ := hrel
      by_cases hlt : j < n
      · obtain ⟨b, off, x, r, rfl, hc, HX, hr⟩ := HC.out j hlt
        obtain ⟨b', off', x', r', rfl, hc', HX', hr'⟩ := HC'.out j hlt
        have hc1 := hd.cell hc
        have hc1' := hd.cell hc'
        go_wp2
        go_quiet ((go_at_call 67; exact Calls.quiet_of (sameInts _ _ r r' _ (hr.keep ((hd.drewN _).below _)) (hr'.keep ((hd.drewN _).below _)))))
        go_wp2
        · go_ret
          exact ⟨ret_bool (same_ne (ne_of_get HX.out HX'.out (by intro e; subst e; simp_all [same_refl]))).symm, hd.drewN _⟩
        · go_roundw
          case rel => exact ⟨⟨j + 1, by omega, by go_num, Lib.hid (take_eq_succ HT.out HX.out HX'.out (of_same (by simp_all)))⟩, hd.drewN _⟩
          case measure => simp [intOf]; omega
      · go_wp2
        go_ret
        exact ⟨ret_bool (same_eq (eq_of_take_all HL.out HL'.out HT.out hlt)).symm, hd⟩
  · go_enter Tryz.func15, Tryz.ntmps15
    go_wp2
    go_ret
    exact ⟨ret_bool (same_ne (ne_of_len HL.out HL'.out hne)).symm, Drawn.refl _⟩
theorem bytesKeep {w w' : World} {v : Value} {l : List UInt8} (h : BytesV w v l) (hb : Below w.heap.size w w') : BytesV w' v l := Row.keep h hb
end Go.Proofs.YtkohadoicebojaaGreatDoor

namespace Go.Proofs.YtkohadoicebojaaGreatDoor
open Go.RowKit Go.Deep
set_option maxRecDepth 10000 in
set_option maxHeartbeats 400000 in
theorem sameShiftC (k : Int) (v v' : Value) (l : List ByteArray) (w : World) (h : Strs w v l) (h' : Strs w v' l) :
    Calls Tryz.prog 39 #[.agg #[.int .i64 k, v], .agg #[.int .i64 k, v']] w fun e w' => e = .returned (.bool true) ∧ Below w.heap.size w w' := by
  have hb := below_alloc w (.cells #[.int .i64 k, v] 41)
  have hb2 := hb.trans ((below_alloc (w.alloc (.cells #[.int .i64 k, v] 41)) (.cells #[.int .i64 k, v'] 41)).mono (by simp))
  go_enter Tryz.func39, Tryz.ntmps39
  go_wp2_with (go_at_call 35; refine (sameTexts v v' l l _ (h.keep hb2) (h'.keep hb2)).mono ?_; rintro e w2 ⟨rfl, hd⟩; rw [same_refl])
  go_ret
  exact ⟨rfl, hb2.trans (hd.below _)⟩
end Go.Proofs.YtkohadoicebojaaGreatDoor

namespace Go.Proofs.YtkohadoicebojaaGreatDoor
open Go.RowKit Go.Deep
theorem lit_cell (w : World) (L : List Value) (e : TypeId) {j : Nat} {x : Value} (h : L[j]? = some x) : (w.alloc (.cells L.toArray e)).cell? ⟨w.heap.size, j, none⟩ = some x := by
  obtain ⟨hj, hx⟩ := List.getElem?_eq_some_iff.1 h
  have hr := World.rowIs_alloc w L.toArray e (fun i => L.getD i x) (fun i hi => by
    have hi' : i < L.length := by simpa using hi
    simp [List.getD, List.getElem?_eq_getElem hi'])
  have hc := hr.cell (i := j) (by simpa using hj)
  rw [hc]
  simp [List.getD, h]
theorem growN {B N : Nat} {w w' : World} (h : w.grownBy w' (some N)) (hN : B ≤ N) (hB : B ≤ w.heap.size) : Below B w w' :=
  ⟨h.os, h.tape, h.output, h.size, fun k hk => h.block k (by omega) (fun e => by have := Option.some.inj e; omega)⟩
theorem growA (w : World) (o : Obj) (b : Option Nat) : w.grownBy (w.alloc o) b := have h := below_alloc w o; ⟨h.os, h.tape, h.output, h.size, fun k hk _ => h.block k hk⟩
theorem Cur.lt {w0 w : World} {N n : Nat} {v : Value} (h : Cur w0 N v n w) : N < w.heap.size := by
  obtain ⟨_, _, i, k, _, hr⟩ := h
  exact hr.lt
theorem pickS (w0 : World) (N n : Nat) (v : Value) (l : List UInt8) (w : World) (hv : BytesV w0 v l) (hl : l.length = n) (hC : Cur w0 N v n w) (L : List ByteArray) (te : TypeId) (m k : Nat) (hL : L.length = m) (hk : 1 ≤ k) (hkm : k ≤ m) (hm2 : m ≤ 1000) (cap : Nat) :
    Calls Tryz.prog 103 #[.pointer (some ⟨N, 0, none⟩), .slice (some ⟨w.heap.size, 0, none⟩) k cap] (w.alloc (.cells (strs L).toArray te)) fun e w' => ∃ x, e = .returned (.string x) ∧ x ∈ L ∧ Cur w0 N v n w' ∧ w.grownBy w' (some N) := by
  have hlt := hC.lt
  refine (l1Pick w0 N n v l _ hv hl (hC.keep (below_alloc _ _)) w.heap.size (by omega) (L.take k) k (by rw [List.length_take]; omega) hk (by omega) (fun j x hj => lit_cell w (strs L) te ?_) cap).mono ?_
  · have h1 : L[j]? = some x := by
      rw [List.getElem?_take] at hj
      split at hj
      · exact hj
      · cases hj
    rw [strs_get?, h1]; rfl
  · rintro e w' ⟨x, rfl, hx, hC', hg⟩
    exact ⟨x, rfl, List.mem_of_mem_take hx, hC', (growA w _ _).trans hg⟩
theorem pickI (w0 : World) (N n : Nat) (v : Value) (l : List UInt8) (w : World) (hv : BytesV w0 v l) (hl : l.length = n) (hC : Cur w0 N v n w) (L : List Int) (te : TypeId) (m : Nat) (hL : L.length = m) (hk : 1 ≤ m) (hm2 : m ≤ 1000) (cap : Nat) :
    Calls Tryz.prog 57 #[.pointer (some ⟨N, 0, none⟩), .slice (some ⟨w.heap.size, 0, none⟩) m cap] (w.alloc (.cells (ints L).toArray te)) fun e w' => ∃ x, e = .returned (.int .i64 x) ∧ x ∈ L ∧ Cur w0 N v n w' ∧ w.grownBy w' (some N) := by
  have hlt := hC.lt
  refine (l1PickInt w0 N n v l _ hv hl (hC.keep (below_alloc _ _)) w.heap.size (by omega) L m hL hk hm2 (fun j x hj => lit_cell w (ints L) te ?_) cap).mono ?_
  · rw [ints_get?, hj]; rfl
  · rintro e w' ⟨x, rfl, hx, hC', hg⟩
    exact ⟨x, rfl, hx, hC', (growA w _ _).trans hg⟩
set_option maxRecDepth 10000 in
set_option maxHeartbeats 400000 in
theorem l1Once (w0 : World) (N n : Nat) (v : Value) (l : List UInt8) (w : World) (hv : BytesV w0 v l) (hl : l.length = n) (hC : Cur w0 N v n w) (m : Nat) (hm : 1 ≤ m) (hm2 : m ≤ 4000000000) :
    Calls Tryz.prog 83 #[.pointer (some ⟨N, 0, none⟩), .int .i64 m] w fun e w' => ∃ x : Nat, e = .returned (.bool (decide (x = 0))) ∧ Cur w0 N v n w' ∧ w.grownBy w' (some N) := by
  go_enter Tryz.func83, Tryz.ntmps83
  go_wp2_with fail
  refine (l1Below w0 N n v l _ hv hl hC m hm hm2).mono ?_
  rintro e w1 ⟨x, rfl, hx, hC1, hg1⟩
  by_cases h : x = 0
  · subst h
    rw [show ((0 : Nat) : Int) = 0 from rfl]
    go_wp2
    go_ret
    exact ⟨0, rfl, hC1, hg1⟩
  · have h1 : ((x : Int) == 0) = false := beq_eq_false_iff_ne.2 (by omega)
    go_wp2
    go_ret
    exact ⟨x, ret_bool (decide_eq_false h).symm, hC1, hg1⟩
set_option maxRecDepth 10000 in
set_option maxHeartbeats 400000 in
theorem l1Turned (w0 : World) (N n : Nat) (v : Value) (l : List UInt8) (w : World) (hv : BytesV w0 v l) (hl : l.length = n) (hC : Cur w0 N v n w) (s : ByteArray) (z : Nat) (hz : s.size = z) (hs : z ≤ 100000) (L : List ByteArray) (te : TypeId) (m : Nat) (hL : L.length = m) (hm : 1 ≤ m) (hm2 : m ≤ 1000) (hx : ∀ x ∈ L, x.size ≤ 4) :
    Calls Tryz.prog 61 #[.pointer (some ⟨N, 0, none⟩), .string s, .slice (some ⟨w.heap.size, 0, none⟩) m m] (w.alloc (.cells (strs L).toArray te)) fun e w' => ∃ t : ByteArray, e = .returned (.string t) ∧ t.size ≤ z + 4 ∧ Cur w0 N v n w' ∧ w.grownBy w' (some N) := by
  have hlt := hC.lt
  have HX := Lib.hid hx; clear hx
  have HC : Hid (∀ j x, L[j]? = some x → (w.alloc (.cells (strs L).toArray te)).cell? ⟨w.heap.size, j, none⟩ = some (.string x)) := Lib.hid fun j x hj => lit_cell w (strs L) te (by rw [strs_get?, hj]; rfl)
  have hC1 := hC.keep (below_alloc w (.cells (strs L).toArray te))
  have hg0 := growA w (.cells (strs L).toArray te) (some N)
  obtain ⟨u, hu⟩ : ∃ u, w.heap.size = u := ⟨_, rfl⟩
  rw [hu] at HC hlt ⊢
  obtain ⟨w1, hw1⟩ : ∃ w1, w.alloc (.cells (strs L).toArray te) = w1 := ⟨_, rfl⟩
  rw [hw1] at HC hC1 hg0 ⊢
  clear hC hu hw1
  go_enter Tryz.func61, Tryz.ntmps61
  go_wp2_with fail
  rw [show ((z : Int) + 1) = ((z + 1 : Nat) : Int) by omega]
  refine (l1Below w0 N n v l _ hv hl hC1 (z + 1) (by omega) (by omega)).mono ?_
  rintro e w2 ⟨k, rfl, hk, hC2, hg2⟩
  go_wp2_with fail
  refine (l1Below w0 N n v l _ hv hl hC2 6 (by omega) (by omega)).mono ?_
  rintro e w3 ⟨d, rfl, hd, hC3, hg3⟩
  have hg := (hg0.trans hg2).trans hg3
  have hbd : Below w3.heap.size w3 w3.drew := (Below.refl _ _).drew
  have hCd := hC3.keep hbd
  have hgd : w.grownBy w3.drew (some N) := hg.trans (grow_drew w3 1 _)
  have hzd : w3.drew.heap.size = w3.heap.size := rfl
  have hkz : k ≤ z := by omega
  have hcell : ∀ j x, L[j]? = some x → w3.drew.cell? ⟨u, j, none⟩ = some (.string x) := fun j x hj => by
    have h1 := HC.out j x hj
    have h2 := hg2.cell h1 (fun e => by have h9 : u = N := Option.some.inj e; omega)
    have h3 := hg3.cell h2 (fun e => by have h9 : u = N := Option.some.inj e; omega)
    exact cell_keep hbd h3
  have key := Lib.hid (l1Pick w0 N n v l w3.drew hv hl hCd u (by omega) L m hL hm hm2 hcell m)
  have e1 : (s.extract 0 k).size = k := by rw [ByteArray.size_extract, hz]; omega
  have e2 : (s.extract k z).size = z - k := by rw [ByteArray.size_extract, hz]; omega
  obtain ⟨A, hA⟩ : ∃ A, s.extract 0 k = A := ⟨_, rfl⟩
  obtain ⟨B, hB⟩ : ∃ B, s.extract k z = B := ⟨_, rfl⟩
  rw [hA] at e1
  rw [hB] at e2
  clear hcell hbd hC1 hC2 hg2 hg3 hg0 HC hd
  have HS : Hid (∀ x ∈ L, (Op.stringOp .add A x).run Tryz.prog = (fun w => .ok (.string (A ++ x)) w) ∧ (Op.stringOp .add (A ++ x) B).run Tryz.prog = (fun w => .ok (.string (A ++ x ++ B)) w)) := Lib.hid fun x hx => by
    have := HX.out x hx
    refine ⟨?_, ?_⟩
    · funext w; rw [run_string_add_if, if_neg (by omega)]
    · funext w; rw [run_string_add_if, if_neg (by rw [ByteArray.size_append]; omega)]
  by_cases d0 : d = 0
  · subst d0
    rw [show ((0 : Nat) : Int) = 0 from rfl]
    go_wp2
    go_region_law (go_simp; go_at_call 103; refine key.out.mono ?_; rintro e w4 ⟨x, rfl, hx4, hC4, hg4⟩; have hx5 := HX.out x hx4; have hr1 := HS.out x hx4; have hr2 := hr1.1; have hr3 := hr1.2)
    all_goals
      go_wp2
      go_ret
      exact ⟨_, rfl, by simp only [ByteArray.size_append]; omega, hC4, hgd.trans hg4⟩
  · have d1 : ((d : Int) == 0) = false := beq_eq_false_iff_ne.2 (by omega)
    clear key hCd hgd hzd
    by_cases d2 : d = 1
    · subst d2
      rw [show ((1 : Nat) : Int) = 1 from rfl]
      go_wp2
      go_ret
      exact ⟨_, rfl, by omega, hC3, hg⟩
    · have d3 : ((d : Int) == 1) = false := beq_eq_false_iff_ne.2 (by omega)
      go_wp2
      go_ret
      exact ⟨_, rfl, by omega, hC3, hg⟩
end Go.Proofs.YtkohadoicebojaaGreatDoor

namespace Go.Proofs.YtkohadoicebojaaGreatDoor
open Go.RowKit Go.Deep
def abc : List ByteArray := [⟨#[97]⟩, ⟨#[98]⟩, ⟨#[99]⟩]
def abcd : List ByteArray := [⟨#[97]⟩, ⟨#[98]⟩, ⟨#[99]⟩, ⟨#[100]⟩]
theorem abc_one {x : ByteArray} (h : x ∈ abc) : x.size = 1 := by
  simp only [abc, List.mem_cons, List.not_mem_nil, or_false] at h
  rcases h with rfl | rfl | rfl <;> rfl
theorem abcd_one {x : ByteArray} (h : x ∈ abcd) : x.size ≤ 4 := by
  simp only [abcd, List.mem_cons, List.not_mem_nil, or_false] at h
  rcases h with rfl | rfl | rfl | rfl <;> decide
set_option maxRecDepth 10000 in
set_option maxHeartbeats 400000 in
theorem l2Draw (w0 : World) (N n : Nat) (v : Value) (l : List UInt8) (w : World) (hv : BytesV w0 v l) (hl : l.length = n) (hC : Cur w0 N v n w) (k most : Nat) (hk1 : 1 ≤ k) (hk : k ≤ 3) (hm : most ≤ 20) :
    Calls Tryz.prog 111 #[.pointer (some ⟨N, 0, none⟩), .int .i64 k, .int .i64 most] w fun e w' => ∃ s : ByteArray, e = .returned (.string s) ∧ s.size ≤ most ∧ Cur w0 N v n w' ∧ w.grownBy w' (some N) := by
  go_enter Tryz.func111, Tryz.ntmps111
  go_wp2_with fail
  rw [show ((most : Int) + 1) = ((most + 1 : Nat) : Int) by omega]
  refine (l1Below w0 N n v l _ hv hl hC (most + 1) (by omega) (by omega)).mono ?_
  rintro e w1 ⟨c, rfl, hc, hC1, hg1⟩
  go_wp2
  go_loopw [7, 8] (fun q i wr => ∃ (j : Nat) (s : ByteArray) (z : Nat), i = .int .i64 j ∧ q = .string s ∧ s.size = z ∧ z + j ≤ most ∧ Cur w0 N v n wr ∧ w.grownBy wr (some N)) (fun _ i _ => (intOf i).toNat)
  case atStart => exact ⟨c, ⟨#[]⟩, 0, rfl, rfl, rfl, by omega, hC1, hg1⟩
  case round =>
    obtain ⟨j, s, z, rfl, rfl, hz, hzj, hCr, hgr⟩ := hrel
    by_cases hlt : 0 < j
    · have hP := Lib.hid (pickS w0 N n v l wr hv hl hCr abc 9 3 k rfl hk1 hk (by omega) 3)
      have hne := hCr.lt
      go_wp2_with fail
      refine hP.out.mono ?_
      rintro e w2 ⟨x, rfl, hx, hC2, hg2⟩
      have hx1 := abc_one hx
      have hsx : s.size + x.size ≤ 100 := by omega
      go_wp2
      go_roundw
      case rel => exact ⟨j - 1, _, z + 1, by go_num, rfl, by rw [ByteArray.size_append]; omega, by omega, hC2, hgr.trans hg2⟩
      case measure => simp [intOf]; omega
    · go_wp2
      go_ret
      exact ⟨_, rfl, by omega, hCr, hgr⟩
set_option maxRecDepth 10000 in
set_option maxHeartbeats 400000 in
theorem l2Bent (w0 : World) (N n : Nat) (v : Value) (l : List UInt8) (w : World) (hv : BytesV w0 v l) (hl : l.length = n) (hC : Cur w0 N v n w) :
    Calls Tryz.prog 84 #[.pointer (some ⟨N, 0, none⟩)] w fun e w' => ∃ s : ByteArray, e = .returned (.string s) ∧ s.size ≤ 16 ∧ Cur w0 N v n w' ∧ w.grownBy w' (some N) := by
  go_enter Tryz.func84, Tryz.ntmps84
  go_wp2_with fail
  refine (l1Once w0 N n v l _ hv hl hC 3 (by omega) (by omega)).mono ?_
  rintro e w1 ⟨o, rfl, hC1, hg1⟩
  cases ho : decide (o = 0)
  · go_wp2_with fail
    refine (l1Below w0 N n v l _ hv hl hC1 2 (by omega) (by omega)).mono ?_
    rintro e w2 ⟨c, rfl, hc, hC2, hg2⟩
    go_wp2_with fail
    rw [show (2 : Int) + (c : Int) = ((2 + c : Nat) : Int) by omega]
    refine (l2Draw w0 N n v l _ hv hl hC2 (2 + c) 9 (by omega) (by omega) (by omega)).mono ?_
    rintro e w3 ⟨s, rfl, hs, hC3, hg3⟩
    have hT := Lib.hid (l1Turned w0 N n v l w3 hv hl hC3 s s.size rfl (by omega) abcd 9 4 rfl (by omega) (by omega) (fun x hx => abcd_one hx))
    go_wp2_with fail
    refine hT.out.mono ?_
    rintro e w4 ⟨t, rfl, ht, hC4, hg4⟩
    go_wp2
    go_ret
    exact ⟨t, rfl, by omega, hC4, ((hg1.trans hg2).trans hg3).trans hg4⟩
  · go_wp2_with fail
    refine (l2Draw w0 N n v l _ hv hl hC1 2 4 (by omega) (by omega) (by omega)).mono ?_
    rintro e w2 ⟨s, rfl, hs, hC2, hg2⟩
    go_wp2_with fail
    refine (l1Below w0 N n v l _ hv hl hC2 3 (by omega) (by omega)).mono ?_
    rintro e w3 ⟨c, rfl, hc, hC3, hg3⟩
    have hz : (rep s (1 + c)).size ≤ 16 := by
      rw [rep_size]
      have := Nat.mul_le_mul (show 1 + c ≤ 3 by omega) hs
      omega
    go_wp2_with fail
    rw [show (1 : Int) + (c : Int) = ((1 + c : Nat) : Int) by omega]
    refine (sL2Times s (1 + c) _ (by omega) (by omega)).mono ?_
    rintro e w4 ⟨rfl, rfl⟩
    go_wp2
    go_ret
    exact ⟨_, rfl, hz, hC3, (hg1.trans hg2).trans hg3⟩
end Go.Proofs.YtkohadoicebojaaGreatDoor
