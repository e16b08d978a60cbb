/- FnExactParseShift returns true for every input and leaves its arguments as they were. No conditions. -/
import Derived.Test.YtloicjojhfpihaaDoorPSh
import Derived.Test.YtloicjojhfpihaaDoorFrameD
import Derived.Deep.RegionHeld3
namespace Go.Proofs.YtloicjojhfpihaaDoor
open Go.RowKit Go.Deep Go.ChangeShapes Go.WideShapes Go.ChangeAt
theorem ev_of_laid4 {W : World} {d1 d2 d3 d4 e1 e2 : DataW Unit} {n1 n2 n3 n4 s1 s2 : String} {rest : List (String × DataW Unit)} (h : laidMet Tryd.prog ((n1, d1) :: (n2, d2) :: (n3, d3) :: (n4, d4) :: ("strconv.ErrRange", .iface s1 e1) :: ("strconv.ErrSyntax", .iface s2 e2) :: rest) W) : Ev W := by
  obtain ⟨ps, ⟨g0, t0, cs0, f0, p0, q0, _, _, _, _, ⟨g1, t1, cs1, f1, p1, q1, _, _, _, _, ⟨g2, t2, cs2, f2, p2, q2, _, _, _, _, ⟨g3, t3, cs3, f3, p3, q3, _, _, _, _, ⟨g, t, cs, fuel, p, q, hg, ht, hv, hd, ⟨g', t', cs', fuel', p', q', hg', ht', hv', hd', _⟩, _⟩, _⟩, _⟩, _⟩, _⟩, _⟩ := h
  obtain rfl := Option.some.inj (gRng.symm.trans hg)
  obtain rfl := Option.some.inj (gSyn.symm.trans hg')
  obtain rfl := Option.some.inj ((show (Tryd.prog.globals[4]?).map (·.type) = some 59 by kernel_rfl).symm.trans ht)
  obtain rfl := Option.some.inj ((show (Tryd.prog.globals[3]?).map (·.type) = some 59 by kernel_rfl).symm.trans ht')
  obtain ⟨_, u, v, hcs, _⟩ := iface_of_trod Tryd.underlying59 hd
  obtain ⟨_, u', v', hcs', _⟩ := iface_of_trod Tryd.underlying59 hd'
  refine ⟨⟨u', v', ?_⟩, ⟨u, v, ?_⟩⟩
  · have := World.var?_cell hg' hv' 0
    rw [arr_one hcs'] at this
    simpa using this
  · have := World.var?_cell hg hv 0
    rw [arr_one hcs] at this
    simpa using this
theorem belowQ {a b c : World} (h : Below a.heap.size a b) (k : Below b.heap.size b c) : Below a.heap.size a c := h.trans (k.mono h.size)
theorem shR_small {s : ByteArray} {c : Int} {l : List ByteArray} {b : Bool} (h : ShR s c l b) : l.length ≤ 8 := by
  rcases h with ⟨_, _, h⟩ | ⟨_, _, rfl, _⟩
  · unfold isShift at h
    simp only [Bool.and_eq_true, decide_eq_true_eq] at h
    exact h.2.1
  · exact Nat.zero_le _

set_option maxRecDepth 10000 in
set_option maxHeartbeats 800000 in
theorem lawParseShift (w : World) (hsh : w.ShapedOpen Tryd.prog) (hl : laidMetH Tryd.prog Rows.fnExactParseShiftRow.laid w) (s : ByteArray) (_ : s.size ≤ maxLen) :
    Calls Tryd.prog 3 #[.string s] w fun e w' => e = .returned (.bool true) ∧ Below w.heap.size w w' := by
  by_cases hbs : 1048576 < (s.size : Int)
  · go_enter Tryd.func3, Tryd.ntmps3
    go_wp2
    go_ret
    exact ⟨rfl, Below.refl _ _⟩
  have hs : s.size ≤ 1048576 := by omega
  rw [MakeChecks.laidMetH_plain _ _ _ (by kernel_rfl)] at hl
  have ht : Tb w := tb_of_laid hl
  have hev : Ev w := ev_of_laid4 hl
  have hm : Ml w := Tryd.laysM146.s1_3 w hsh
  have hx : ∀ (u : World) o, Below u.heap.size u (u.alloc o) := fun u o => below_alloc u o
  clear hl hsh
  go_enter Tryd.func3, Tryd.ntmps3
  go_wp2_with fail
  refine (sParseShift s _ hs).mono ?_
  rintro e w1 ⟨c, v1, l, b, rfl, ho1, HR1, b1⟩
  have hlen := shR_small HR1.out
  obtain ⟨a1, k1, rfl⟩ := ho1.form
  have q0 : (w1.alloc (.cells #[.int .i64 c, .slice a1 l.length k1] 24)).cell? ⟨w1.heap.size, 0, none⟩ = some (.int .i64 c) := by simp
  have q1 : (w1.alloc (.cells #[.int .i64 c, .slice a1 l.length k1] 24)).cell? ⟨w1.heap.size, 1, none⟩ = some (.slice a1 l.length k1) := by simp
  have b1x := belowQ b1 (hx w1 (.cells #[.int .i64 c, .slice a1 l.length k1] 24))
  have o1b := fun j hj => (ho1.lt j hj).2
  have ho1 := ho1.keep (hx w1 (.cells #[.int .i64 c, .slice a1 l.length k1] 24))
  have zx1 : (w1.alloc (.cells #[.int .i64 c, .slice a1 l.length k1] 24)).heap.size = w1.heap.size + 1 := by simp
  have zb1 := b1.size
  clear b1
  go_wp2_with fail
  refine (iParseShift s _ hs (hm.keep b1x) (ht.keep b1x) (hev.keep b1x)).mono ?_
  rintro e w2 ⟨c', v2, l', b', rfl, ho2, HR2, hb2⟩
  obtain ⟨rfl, rfl, rfl⟩ := ShR.eq HR1.out HR2.out
  obtain ⟨a2, k2, rfl⟩ := ho2.form
  clear HR2
  have hx2 := hx w2 (.cells #[.int .i64 c, .slice a2 l.length k2] 24)
  have zx2 : (w2.alloc (.cells #[.int .i64 c, .slice a2 l.length k2] 24)).heap.size = w2.heap.size + 1 := by simp
  have z2 := hb2.size
  rw [zx1] at z2 ho2
  have b2x := belowQ (belowQ b1x hb2) hx2
  replace q0 := cell_keep hx2 (cell_keep hb2 q0)
  replace q1 := cell_keep hx2 (cell_keep hb2 q1)
  replace ho1 := (ho1.keep hb2).keep hx2
  have p0 : (w2.alloc (.cells #[.int .i64 c, .slice a2 l.length k2] 24)).cell? ⟨w2.heap.size, 0, none⟩ = some (.int .i64 c) := by simp
  have p1 : (w2.alloc (.cells #[.int .i64 c, .slice a2 l.length k2] 24)).cell? ⟨w2.heap.size, 1, none⟩ = some (.slice a2 l.length k2) := by simp
  have o2b := ho2.lt
  replace ho2 := ho2.keep hx2
  have qb : (b != b) = false := by simp
  clear b1x hb2
  go_wp2_with fail
  refine (eqShift c _ _ l _ ho2.strs ho1.strs).mono ?_
  rintro e w3 ⟨rfl, hb3⟩
  have z3 := hb3.size
  rw [zx2] at z3
  have b3 := belowQ b2x hb3
  replace q0 := cell_keep hb3 q0
  replace q1 := cell_keep hb3 q1
  replace p0 := cell_keep hb3 p0
  replace p1 := cell_keep hb3 p1
  replace ho1 := ho1.keep hb3
  replace ho2 := ho2.keep hb3
  clear b2x hb3 hx2 zx1 zx2
  go_wp2_with fail
  refine (markShiftX _ c _ l 1 _ ho2 (by omega) (by omega)).mono ?_
  rintro e w4 ⟨rfl, hM, hg4⟩
  have b4 := b3.trans (ho2.below hg4 (by omega) b3.size)
  have hne : ∀ n, n ≤ w1.heap.size ∨ w2.heap.size ≤ n → some n ≠ (Value.slice a2 l.length k2).ownBlock := fun n hn e => by
    have := o2b n e.symm
    omega
  have z4 := hg4.size
  replace q0 := hg4.cell q0 (hne _ (.inl (Nat.le_refl _)))
  replace q1 := hg4.cell q1 (hne _ (.inl (Nat.le_refl _)))
  replace p0 := hg4.cell p0 (hne _ (.inr (Nat.le_refl _)))
  replace p1 := hg4.cell p1 (hne _ (.inr (Nat.le_refl _)))
  replace ho1 := ho1.grown hg4 (by
    cases e : (Value.slice a1 l.length k1).ownBlock with
    | none => exact .inl rfl
    | some n => exact .inr (hne n (.inl (Nat.le_of_lt (o1b n e)))))
  clear hne hg4 ho2 b3
  go_wp2_with fail
  refine (heldShift c _ l.length 1 _ hM.strs (by omega) (by omega)).mono ?_
  rintro e w5 ⟨rfl, hb5⟩
  have z5 := hb5.size
  have b5 := belowQ b4 hb5
  replace q0 := cell_keep hb5 q0
  replace q1 := cell_keep hb5 q1
  replace p0 := cell_keep hb5 p0
  replace p1 := cell_keep hb5 p1
  replace ho1 := ho1.keep hb5
  replace hM := hM.keep hb5
  clear hb5 b4
  go_wp2_with fail
  refine (iParseShift s _ hs (hm.keep b5) (ht.keep b5) (hev.keep b5)).mono ?_
  rintro e w6 ⟨c', v6, l', b', rfl, ho6, HR6, hb6⟩
  obtain ⟨rfl, rfl, rfl⟩ := ShR.eq HR1.out HR6.out
  obtain ⟨a6, k6, rfl⟩ := ho6.form
  clear HR6
  have hx6 := hx w6 (.cells #[.int .i64 c, .slice a6 l.length k6] 24)
  have b6x := belowQ (belowQ b5 hb6) hx6
  replace q0 := cell_keep hx6 (cell_keep hb6 q0)
  replace q1 := cell_keep hx6 (cell_keep hb6 q1)
  replace p0 := cell_keep hx6 (cell_keep hb6 p0)
  replace p1 := cell_keep hx6 (cell_keep hb6 p1)
  replace ho1 := (ho1.keep hb6).keep hx6
  replace hM := (hM.keep hb6).keep hx6
  replace ho6 := ho6.keep hx6
  clear hb6 b5 hx6
  go_wp2_with fail
  refine (eqShift c _ _ l _ ho6.strs ho1.strs).mono ?_
  rintro e w7 ⟨rfl, hb7⟩
  have b7 := belowQ b6x hb7
  replace p0 := cell_keep hb7 p0
  replace p1 := cell_keep hb7 p1
  replace hM := hM.keep hb7
  clear q0 q1 ho1 ho6 b6x hb7
  go_wp2_with fail
  refine (heldShift c _ l.length 1 _ hM.strs (by omega) (by omega)).mono ?_
  rintro e w8 ⟨rfl, hb8⟩
  have b8 := belowQ b7 hb8
  go_wp2
  go_ret
  exact ⟨rfl, b8⟩
set_option maxRecDepth 100000 in
theorem fnExactParseShift_lifted (os : Os) (started : os.Started) (H : Type) (enc : TypeId × Value → H) :
    ReturnsInHanded {} Tryd.checked os 3 .any (fun w args => (Rows.fnExactParseShiftSpec.pre enc Tryd.prog Tryd.f3 [] false w args ∧ laidMetH Tryd.prog Rows.fnExactParseShiftRow.laid w) ∧ sizedMet enc Tryd.prog Tryd.f3 (OpenSpec.ofChange Rows.fnExactParseShiftSpec) false w args) (Rows.fnExactParseShiftSpec.post enc Tryd.prog Tryd.f3 false true false false) := by
  refine lifted_law_door (lst := Rows.fnExactParseShiftRow.laid) started (by kernel_rfl) Tryd.func3
    (ChangeSpec.witness_shaped (enc := enc) (C := Tryd.checked) (os := os) (X := fun w _ => laidMetH Tryd.prog Rows.fnExactParseShiftRow.laid w) false (World.laidAll Tryd.prog os Rows.fnExactParseShiftRow.laid) #[.string ByteArray.empty] 8 (World.laidAll_os _ _ _)
      (World.shaped_of_ZipB (by kernel_rfl) (by kernel_rfl)) (by kernel_rfl) (by kernel_rfl) (by kernel_rfl)
      (by rw [MakeChecks.laidMetH_plain _ _ _ (by kernel_rfl)]; exact laidMet_laidAll _ (by kernel_rfl) (by kernel_rfl)))
    rfl (by kernel_rfl) (by kernel_rfl) ?_ ?_
  · intro ds hl
    match ds, hl with
    | [d0], _ => rfl
  · intro W base args ds p hshp hlaid hval hA
    rw [Tryd.params3] at hval hA
    obtain ⟨v0, vs0, d0, ds0, p0, q0, hargs, rfl, rfl, h0, r0⟩ := trodAll_cons hA
    obtain ⟨rfl, rfl, rfl⟩ := trodAll_nil r0
    obtain rfl : args = #[v0] := by cases args; simp_all
    obtain ⟨s0, rfl, rfl, rfl, ws0⟩ := Go.ChangeMaps.open_string Tryd.underlying9 (hval 0 9 v0 rfl rfl) h0
    exact lawParseShift W hshp hlaid s0 ws0

set_option maxRecDepth 100000 in
theorem fnExactParseShift_holds : Rows.FnExactParseShiftSaid :=
  OpenClaim.holds_of_wide 3 Tryd.f3 rfl rfl rfl rfl rfl rfl rfl ⟨rfl, rfl, rfl, rfl, rfl⟩ rfl rfl rfl rfl rfl (by kernel_rfl) Tryd.func3 (by kernel_rfl)
    (of_decide_eq_true (by kernel_rfl)) (by unfold Func.isWrapper; first | (rw [if_pos (by decide +kernel)]; kernel_rfl) | (rw [if_neg (by decide +kernel)]; exact ⟨rfl, rfl⟩))
    (fun os started H enc _ => fnExactParseShift_lifted os started H enc)
set_option maxRecDepth 100000 in
theorem fnExactParseShiftCard_holds : Rows.FnExactParseShiftCardSaid :=
  Claim7.holds_tied_plain_at .later [] [.data, .data, .data, .data, .sentinel, .sentinel, .pinned] true (true, "e7b61529d3f8533211bc118549634c46ced31f777ae8a42d376890d243e7364b") true fnExactParseShift_holds (fun _ h => by cases h) (by kernel_rfl) (fun _ h => by cases h) fnExactParseShift_row_tie rfl ⟨rfl, rfl⟩ (by kernel_rfl) rfl
    (fun f fn hf hfn => by
      obtain rfl : f = 3 := Option.some.inj ((show Tryd.prog.funcNamed "loop.example/g03103/laws.FnExactParseShift" = some 3 by kernel_rfl).symm.trans hf) |>.symm
      obtain rfl : fn = Tryd.f3 := (Option.some.inj (Tryd.func3.symm.trans hfn)).symm
      exact ⟨by kernel_rfl, fun j t ht => by
        have hall : (Tryd.f3.params.toList.all fun u => !Tryd.prog.wantsStandIn u) = true := by kernel_rfl
        have hm : t ∈ Tryd.f3.params.toList := Array.mem_toList_iff.2 (Array.mem_of_getElem? ht)
        exact (show Tryd.prog.wantsStandIn t = false by simpa using List.all_eq_true.1 hall t hm)⟩)
    (by kernel_rfl)

end Go.Proofs.YtloicjojhfpihaaDoor
