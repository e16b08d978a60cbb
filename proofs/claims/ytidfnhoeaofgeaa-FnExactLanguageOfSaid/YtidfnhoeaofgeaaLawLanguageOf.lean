/- FnExactLanguageOf returns true for every input and leaves its arguments as they were. No conditions. -/
import Derived.Test.YtidfnhoeaofgeaaLangO
import Derived.Test.YtidfnhoeaofgeaaMarkSh
import Derived.Test.YtidfnhoeaofgeaaFrameS
import Derived.Deep.RegionHeld3
namespace Go.Proofs.Ytidfnhoeaofgeaa
open Go.RowKit Go.Deep Go.ChangeShapes Go.WideShapes Go.ChangeAt

theorem belowNext {a b c : World} (h : Below a.heap.size a b) (k : Below b.heap.size b c) : Below a.heap.size a c := h.trans (k.mono h.size)
set_option maxRecDepth 10000 in
set_option maxHeartbeats 800000 in
theorem lawLanguageOf (w : World) (hsh : w.ShapedOpen Try.prog) (k : Int) (v : Value) (l : List ByteArray) (_ : (Lit.int .i64 k).wf = true) (h : StrsZ w v l) (x : Int) (_ : (Lit.int .i64 x).wf = true) :
    Calls Try.prog 9 #[.agg #[.int .i64 k, v], .int .i64 x] w fun e w' => e = .returned (.bool true) ∧ Below w.heap.size w w' := by
  have hm : Ml w := Try.laysM144.s1_3 w hsh
  have hP := langL_len k l x
  have b0 := below_alloc w (.cells #[.int .i64 k, v] 27)
  have z0 : (w.alloc (.cells #[.int .i64 k, v] 27)).heap.size = w.heap.size + 1 := by simp
  have c0 : (w.alloc (.cells #[.int .i64 k, v] 27)).cell? ⟨w.heap.size, 0, none⟩ = some (.int .i64 k) := by simp
  have c1 : (w.alloc (.cells #[.int .i64 k, v] 27)).cell? ⟨w.heap.size, 1, none⟩ = some v := by simp
  obtain ⟨a, n, cap, rfl, -⟩ := h.1.open
  go_enter Try.func9, Try.ntmps9
  go_wp2_with fail
  refine (szShift k _ l 1048576 _ (h.1.keep b0) h.2 (by omega) (by omega)).mono ?_
  rintro e w1 ⟨⟨r, rfl, hr1, hr2, HR⟩, hb1⟩
  have d0 := cell_keep hb1 c0
  have d1 := cell_keep hb1 c1
  have b1 := b0.trans (hb1.mono (by omega))
  by_cases hr : r < 0
  · go_wp2
    go_ret
    exact ⟨rfl, b1⟩
  have hs : l.length + totalS l ≤ 1048576 := by have := HR.out (by omega); omega
  have hz : ∀ s ∈ l, s.size ≤ 1048576 := fun s hs2 => by have := size_le_totalS hs2; omega
  clear c0 c1 z0 b0 hb1
  go_wp2_with fail
  refine (toShift k _ l _ (h.1.keep b1) (by omega)).mono ?_
  rintro e w2 ⟨v2, rfl, ho2, hb2⟩
  have b2 := b1.trans (hb2.mono b1.size)
  have e0 := cell_keep hb2 d0
  have e1 := cell_keep hb2 d1
  go_wp2_with fail
  refine (sLanguageOf k v2 l x _ (ho2.strs) hz).mono ?_
  rintro e w3 ⟨gS, rfl, (oS : OwnS _ _ _ _ _), hb3⟩
  replace oS := oS.toH
  have b3 := belowNext b2 hb3
  have f0 := cell_keep hb3 e0
  have f1 := cell_keep hb3 e1
  have z3 := hb3.size
  have y3 : w.heap.size < w3.heap.size := World.block_lt_of_cell? w3 _ f0
  clear d0 d1 e0 e1 ho2 hb2 hb3
  go_wp2_with fail
  refine (toShift k _ l _ (h.1.keep b3) (by omega)).mono ?_
  rintro e w4 ⟨v4, rfl, ho4, hb4⟩
  have b4 := belowNext b3 hb4
  have g0 := cell_keep hb4 f0
  have g1 := cell_keep hb4 f1
  have z4 := hb4.size
  replace oS := oS.keep hb4
  obtain ⟨a4, c4, hv4⟩ := Own.form ho4 rfl
  subst hv4
  have ox := OwnS.toH ho4
  have hx : ∀ o, Below w4.heap.size w4 (w4.alloc o) := fun o => below_alloc w4 o
  have y4 : (w4.alloc (.cells #[.int .i64 k, .slice a4 (strs l).length c4] 30)).heap.size = w4.heap.size + 1 := by simp
  clear f0 f1 hb4 ho4
  go_wp2_with fail
  refine (iLanguageOf k _ l x _ ((hm.keep b4).keep (hx _)) (ox.strs.keep (hx _)) hz).mono ?_
  rintro e w5 ⟨gG, rfl, (oG : OwnS _ _ _ _ _), hb5⟩
  replace oG := oG.toH
  have q0 : w5.cell? ⟨w4.heap.size, 0, none⟩ = some (.int .i64 k) := cell_keep hb5 (by simp)
  have q1 : w5.cell? ⟨w4.heap.size, 1, none⟩ = some (.slice a4 (strs l).length c4) := cell_keep hb5 (by simp)
  have p0 := cell_keep hb5 (cell_keep (hx (.cells #[.int .i64 k, .slice a4 (strs l).length c4] 30)) g0)
  have p1 := cell_keep hb5 (cell_keep (hx (.cells #[.int .i64 k, .slice a4 (strs l).length c4] 30)) g1)
  have b5 : Below w.heap.size w w5 := belowNext (belowNext b4 (hx _)) hb5
  have z5 := hb5.size
  replace ox := (ox.keep (hx _)).keep hb5
  replace oS := (oS.keep (hx _)).keep hb5
  clear g0 g1 hx hb5
  go_wp2_with fail
  refine (eqStringS _ _ _ _ _ oG.strs oS.strs).mono ?_
  rintro e w6 ⟨rfl, hd6⟩
  have hb6 := hd6.below w5.heap.size
  have q2 := cell_keep hb6 q0
  have q3 := cell_keep hb6 q1
  have p2 := cell_keep hb6 p0
  have p3 := cell_keep hb6 p1
  have b6 := belowNext b5 hb6
  have z6 := hb6.size
  replace oS := oS.keep hb6
  replace ox := ox.keep hb6
  replace oG := oG.keep hb6
  rw [same_refl]
  clear q0 q1 p0 p1 hd6 hb6
  have oSd : OwnSH _ _ _ w6.drew _ _ := oS
  have oxd : OwnSH _ _ _ w6.drew _ _ := ox
  have oGd : OwnSH _ _ _ w6.drew _ _ := oG
  have s0d : Strs w6.drew (.slice a n cap) l := h.1.keep b6.drew
  have b6d : Below w.heap.size w w6.drew := b6.drew
  go_wp2
  go_region_held3 (fun w' => w'.cell? ⟨w4.heap.size, 0, none⟩ = some (.int .i64 k) ∧ w'.cell? ⟨w4.heap.size, 1, none⟩ = some (.slice a4 (strs l).length c4) ∧ w'.cell? ⟨w.heap.size, 0, none⟩ = some (.int .i64 k) ∧ w'.cell? ⟨w.heap.size, 1, none⟩ = some (.slice a n cap) ∧ Below w6.heap.size w6 w')
    (first
      | (refine ⟨?_, ?_, ?_, ?_, ?_⟩ <;> first | assumption | exact Below.refl _ _ | exact (Below.refl _ _).drew)
      | (exact ⟨r0, r1, r2, r3, t6⟩)
      | (exact ⟨cell_keep hb8 r0, cell_keep hb8 r1, cell_keep hb8 r2, cell_keep hb8 r3, u6⟩)
      | go_keep)
    (first
      | (go_at_call 16; refine (toShift k _ l _ s0d (by omega)).mono ?_; rintro e w7 ⟨v7, rfl, ho7, hb7⟩; have t4 := oxd.keep hb7; have t6 : Below w6.heap.size w6 w7 := belowNext (Below.refl _ _).drew hb7; have r0 := cell_keep (w := w6.drew) hb7 q2; have r1 := cell_keep (w := w6.drew) hb7 q3; have r2 := cell_keep (w := w6.drew) hb7 p2; have r3 := cell_keep (w := w6.drew) hb7 p3)
      | (go_at_call 18; refine (eqShift k _ _ l _ t4.strs ho7.strs).mono ?_; rintro e w8 ⟨rfl, hb8⟩; have u6 : Below w6.heap.size w6 w8 := belowNext t6 hb8))
  replace oS := oS.keep u6
  replace ox := ox.keep u6
  replace oG := oG.keep u6
  have b8 := belowNext b6 u6
  have z8 := u6.size
  have q4 := cell_keep u6 q2
  have q5 := cell_keep u6 q3
  have p4 := cell_keep u6 p2
  have p5 := cell_keep u6 p3
  clear oSd oxd oGd s0d b6d q2 q3 p2 p3 u6
  go_wp2_with fail
  refine (markShift _ k _ l 1 _ ox.1 (by omega) (by omega)).mono ?_
  rintro e w9 ⟨rfl, -, hgm⟩
  have zg := hgm.size
  have hlt : ∀ j, (Value.slice a4 (strs l).length c4).ownBlock = some j → w3.heap.size ≤ j ∧ j < w4.heap.size := fun j hj => ⟨(ox.1.lt j hj).1, ox.2 j hj⟩
  replace oS := oS.grown2 hgm (fun j hj => (hlt j hj).1)
  replace oG := oG.grown3 hgm (fun j hj => by have := (hlt j hj).2; omega)
  have b9 := b8.trans (ox.1.below hgm b3.size b8.size)
  have p6 := hgm.cell p4 (fun e => by have h9 : w3.heap.size ≤ w.heap.size := (hlt _ e.symm).1; omega)
  have p7 := hgm.cell p5 (fun e => by have h9 : w3.heap.size ≤ w.heap.size := (hlt _ e.symm).1; omega)
  clear p4 p5 q4 q5
  clear ox hgm hlt
  go_wp2_with fail
  refine (eqStringS _ _ _ _ _ oG.strs oS.strs).mono ?_
  rintro e w10 ⟨rfl, hd10⟩
  have hb10 := hd10.below w9.heap.size
  have b10 := belowNext b9 hb10
  have z10 := hb10.size
  replace oS := oS.keep hb10
  replace oG := oG.keep hb10
  have p8 := cell_keep hb10 p6
  have p9 := cell_keep hb10 p7
  rw [same_refl]
  clear p6 p7 hd10 hb10
  go_wp2_with fail
  refine (markStringS _ _ _ 1 _ oG.1 (by omega) (by omega)).mono ?_
  rintro e w11 ⟨rfl, om, hg11⟩
  have hlt : ∀ j, gG.ownBlock = some j → w4.heap.size < j := fun j hj => by have := (oG.1.lt j hj).1; omega
  replace oS := oS.grown2 hg11 (fun j hj => by have := hlt j hj; omega)
  have b11 := b10.trans (oG.1.below hg11 (by have := b4.size; omega) b10.size)
  have z11 := hg11.size
  have p10 := hg11.cell p8 (fun e => by have h9 : w4.heap.size < w.heap.size := hlt _ e.symm; omega)
  have p11 := hg11.cell p9 (fun e => by have h9 : w4.heap.size < w.heap.size := hlt _ e.symm; omega)
  clear oG p8 p9 hg11
  go_wp2_with fail
  refine (heldStringS _ _ 1 _ om.row (by omega) (by omega)).mono ?_
  rintro e w12 ⟨rfl, hb12⟩
  replace oS := oS.keep hb12
  replace om := om.keep hb12
  have b12 := belowNext b11 hb12
  have p12 := cell_keep hb12 p10
  have p13 := cell_keep hb12 p11
  clear p10 p11 hb12
  go_wp2_with fail
  refine (toShift k _ l _ (h.1.keep b12) (by omega)).mono ?_
  rintro e w13 ⟨v13, rfl, ho13, hb13⟩
  have b13 := belowNext b12 hb13
  replace oS := oS.keep hb13
  replace om := om.keep hb13
  clear p12 p13 hb13
  go_wp2_with fail
  refine (iLanguageOf k v13 l x _ (hm.keep b13) (ho13.strs) hz).mono ?_
  rintro e w14 ⟨v14, rfl, (ho14 : OwnS _ _ _ _ _), hb14⟩
  replace ho14 := ho14.toH
  replace oS := oS.keep hb14
  replace om := om.keep hb14
  have b14 := belowNext b13 hb14
  clear ho13 hb14
  go_wp2_with fail
  refine (eqStringS _ _ _ _ _ ho14.strs oS.strs).mono ?_
  rintro e w15 ⟨rfl, hd15⟩
  replace om := om.keep (hd15.below _)
  have b15 := b14.trans (hd15.below _)
  rw [same_refl]
  clear oS ho14 hd15
  go_wp2_with fail
  refine (heldStringS _ _ 1 _ om.row (by omega) (by omega)).mono ?_
  rintro e w16 ⟨rfl, hb16⟩
  have b16 := belowNext b15 hb16
  go_wp2
  go_ret
  exact ⟨rfl, b16⟩
set_option maxRecDepth 100000 in
theorem fnExactLanguageOf_lifted (os : Os) (started : os.Started) (H : Type) (enc : TypeId × Value → H) :
    ReturnsInHanded {} Try.checked os 9 .any (Rows.fnExactLanguageOfSpec.pre6 enc Try.prog Try.f9 Rows.fnExactLanguageOfRow.domain false) (Rows.fnExactLanguageOfSpec.post enc Try.prog Try.f9 false true false false) := by
  refine lifted_law_shaped started (by kernel_rfl) Try.func9
    (ChangeSpec.witness6 (enc := enc) (C := Try.checked) false ⟨#[], #[.agg #[.int .i64 0, .slice none 0 0], .int .i64 0], []⟩ 8 (by kernel_rfl) (by kernel_rfl) (by kernel_rfl) (by kernel_rfl))
    rfl (by kernel_rfl) (by kernel_rfl) ?_ ?_
  · intro ds hl
    match ds, hl with
    | [d0, d1], _ => rfl
  · intro W base args ds p hshp hval hA
    rw [Try.params9] at hval hA
    obtain ⟨v0, vs0, d0, ds0, p0, q0, hargs, rfl, rfl, h0, r0⟩ := trodAll_cons hA
    obtain ⟨v1, vs1, d1, ds1, p1, q1, rfl, rfl, rfl, h1, r1⟩ := trodAll_cons r0
    obtain ⟨rfl, rfl, rfl⟩ := trodAll_nil r1
    obtain rfl : args = #[v0, v1] := by cases args; simp_all
    obtain ⟨k0, a0, n0, c0, l0, rfl, wk0, hl0⟩ := shift_of_trod Try.underlying27 (by kernel_rfl) (by kernel_rfl) Try.underlying3 Try.underlying25 Try.underlying9 (by kernel_rfl) (hval 0 27 v0 rfl rfl) h0
    obtain ⟨x1, rfl, rfl, rfl, wx1⟩ := open_int Try.underlying3 (hval 1 3 v1 rfl rfl) h1
    exact lawLanguageOf W hshp k0 _ l0 wk0 hl0 x1 wx1

set_option maxRecDepth 100000 in
theorem fnExactLanguageOf_holds : Rows.FnExactLanguageOfSaid :=
  OpenClaim.holds_of_wide 9 Try.f9 rfl rfl rfl rfl rfl rfl rfl ⟨rfl, rfl, rfl, rfl, rfl⟩ rfl rfl rfl rfl rfl (by kernel_rfl) Try.func9 (by kernel_rfl)
    (of_decide_eq_true (by kernel_rfl)) (by unfold Func.isWrapper; first | (rw [if_pos (by decide +kernel)]; kernel_rfl) | (rw [if_neg (by decide +kernel)]; exact ⟨rfl, rfl⟩))
    (fun os started H enc _ => fnExactLanguageOf_lifted os started H enc)

end Go.Proofs.Ytidfnhoeaofgeaa
