/- FnExactIsEmptyShift returns true for every input and leaves its arguments as they were. No conditions. -/
import Derived.Test.YtidfnhoeaofgeaaLang
import Derived.Test.YtidfnhoeaofgeaaFrameS
import Derived.Deep.RegionHeld3
namespace Go.Proofs.Ytidfnhoeaofgeaa
open Go.RowKit Go.Deep Go.ChangeShapes Go.WideShapes Go.ChangeAt

theorem belowNext {a b c : World} (h : Below a.heap.size a b) (k : Below b.heap.size b c) : Below a.heap.size a c := h.trans (k.mono h.size)
set_option maxRecDepth 10000 in
set_option maxHeartbeats 800000 in
theorem lawIsEmptyShift (w : World) (hsh : w.ShapedOpen Try.prog) (k : Int) (v : Value) (l : List ByteArray) (_ : (Lit.int .i64 k).wf = true) (h : StrsZ w v l) :
    Calls Try.prog 7 #[.agg #[.int .i64 k, v]] w fun e w' => e = .returned (.bool true) ∧ Below w.heap.size w w' := by
  have hm : Ml w := Try.laysM144.s1_3 w hsh
  have b0 := below_alloc w (.cells #[.int .i64 k, v] 27)
  have z0 : (w.alloc (.cells #[.int .i64 k, v] 27)).heap.size = w.heap.size + 1 := by simp
  have c0 : (w.alloc (.cells #[.int .i64 k, v] 27)).cell? ⟨w.heap.size, 0, none⟩ = some (.int .i64 k) := by simp
  have c1 : (w.alloc (.cells #[.int .i64 k, v] 27)).cell? ⟨w.heap.size, 1, none⟩ = some v := by simp
  obtain ⟨a, n, cap, rfl, -⟩ := h.1.open
  go_enter Try.func7, Try.ntmps7
  go_wp2_with fail
  refine (szShift k _ l 1048576 _ (h.1.keep b0) h.2 (by omega) (by omega)).mono ?_
  rintro e w1 ⟨⟨r, rfl, hr1, hr2, HR⟩, hb1⟩
  have d0 := cell_keep hb1 c0
  have d1 := cell_keep hb1 c1
  have b1 := b0.trans (hb1.mono (by omega))
  by_cases hr : r < 0
  · go_wp2
    go_ret
    exact ⟨rfl, b1⟩
  have hs : l.length + totalS l ≤ 1048576 := by have := HR.out (by omega); omega
  have hz : ∀ s ∈ l, s.size ≤ 1048576 := fun s hs2 => by have := size_le_totalS hs2; omega
  clear c0 c1 z0 b0 hb1
  go_wp2_with fail
  refine (toShift k _ l _ (h.1.keep b1) (by omega)).mono ?_
  rintro e w2 ⟨v2, rfl, ho2, hb2⟩
  have b2 := b1.trans (hb2.mono b1.size)
  have e0 := cell_keep hb2 d0
  have e1 := cell_keep hb2 d1
  go_wp2_with fail
  refine (sIsEmptyShift k v2 l _ ho2.strs hz).mono ?_
  rintro e w3 ⟨rfl, hb3⟩
  have b3 := b2.trans (hb3.mono b2.size)
  have f0 := cell_keep hb3 e0
  have f1 := cell_keep hb3 e1
  clear d0 d1 e0 e1 ho2 hb2 hb3
  go_wp2_with fail
  refine (toShift k _ l _ (h.1.keep b3) (by omega)).mono ?_
  rintro e w4 ⟨v4, rfl, ho4, hb4⟩
  have b4 := b3.trans (hb4.mono b3.size)
  have g0 := cell_keep hb4 f0
  have g1 := cell_keep hb4 f1
  obtain ⟨a4, c4, hv4⟩ := Own.form ho4 rfl
  subst hv4
  have hs4 := ho4.strs
  have hx : ∀ o, Below w4.heap.size w4 (w4.alloc o) := fun o => below_alloc w4 o
  clear f0 f1 hb4 ho4
  go_wp2_with fail
  refine (iIsEmptyShift k _ l _ ((hm.keep b4).keep (hx _)) (hs4.keep (hx _)) hz).mono ?_
  rintro e w5 ⟨rfl, hb5⟩
  have q0 : w5.cell? ⟨w4.heap.size, 0, none⟩ = some (.int .i64 k) := cell_keep hb5 (by simp)
  have q1 : w5.cell? ⟨w4.heap.size, 1, none⟩ = some (.slice a4 (strs l).length c4) := cell_keep hb5 (by simp)
  have p0 := cell_keep hb5 (cell_keep (hx (.cells #[.int .i64 k, .slice a4 (strs l).length c4] 30)) g0)
  have p1 := cell_keep hb5 (cell_keep (hx (.cells #[.int .i64 k, .slice a4 (strs l).length c4] 30)) g1)
  have b5 : Below w.heap.size w w5 := belowNext (belowNext b4 (hx _)) hb5
  have s4 := (hs4.keep (hx _)).keep hb5
  have s0 := h.1.keep b5
  have s4d : Strs w5.drew (.slice a4 (strs l).length c4) l := s4
  have s0d : Strs w5.drew (.slice a n cap) l := s0
  have b5d : Below w.heap.size w w5.drew := b5.drew
  clear g0 g1 hx hs4 hb5
  go_wp2
  go_region_held3 (fun w' => w'.cell? ⟨w4.heap.size, 0, none⟩ = some (.int .i64 k) ∧ w'.cell? ⟨w4.heap.size, 1, none⟩ = some (.slice a4 (strs l).length c4) ∧ w'.cell? ⟨w.heap.size, 0, none⟩ = some (.int .i64 k) ∧ w'.cell? ⟨w.heap.size, 1, none⟩ = some (.slice a n cap) ∧ Strs w' (.slice a4 (strs l).length c4) l ∧ Strs w' (.slice a n cap) l ∧ Below w.heap.size w w')
    (first
      | (refine ⟨?_, ?_, ?_, ?_, ?_, ?_, ?_⟩ <;> assumption)
      | (exact ⟨r0, r1, r2, r3, t4, t0, t6⟩)
      | (exact ⟨cell_keep hb7 r0, cell_keep hb7 r1, cell_keep hb7 r2, cell_keep hb7 r3, t4.keep hb7, t0.keep hb7, u6⟩)
      | go_keep)
    (first
      | (go_at_call 16; refine (toShift k _ l _ s0d (by omega)).mono ?_; rintro e w6 ⟨v6, rfl, ho6, hb6⟩; have t4 := s4d.keep hb6; have t0 := s0d.keep hb6; have t6 := belowNext b5d hb6; have r0 := cell_keep (w := w5.drew) hb6 q0; have r1 := cell_keep (w := w5.drew) hb6 q1; have r2 := cell_keep (w := w5.drew) hb6 p0; have r3 := cell_keep (w := w5.drew) hb6 p1)
      | (go_at_call 18; refine (eqShift k _ _ l _ t4 ho6.strs).mono ?_; rintro e w7 ⟨rfl, hb7⟩; have u6 := belowNext t6 hb7))
  go_wp2
  go_ret
  exact ⟨rfl, u6⟩
set_option maxRecDepth 100000 in
theorem fnExactIsEmptyShift_lifted (os : Os) (started : os.Started) (H : Type) (enc : TypeId × Value → H) :
    ReturnsInHanded {} Try.checked os 7 .any (Rows.fnExactIsEmptyShiftSpec.pre6 enc Try.prog Try.f7 Rows.fnExactIsEmptyShiftRow.domain false) (Rows.fnExactIsEmptyShiftSpec.post enc Try.prog Try.f7 false true false false) := by
  refine lifted_law_shaped started (by kernel_rfl) Try.func7
    (ChangeSpec.witness6 (enc := enc) (C := Try.checked) false ⟨#[], #[.agg #[.int .i64 0, .slice none 0 0]], []⟩ 8 (by kernel_rfl) (by kernel_rfl) (by kernel_rfl) (by kernel_rfl))
    rfl (by kernel_rfl) (by kernel_rfl) ?_ ?_
  · intro ds hl
    match ds, hl with
    | [d0], _ => rfl
  · intro W base args ds p hshp hval hA
    rw [Try.params7] at hval hA
    obtain ⟨v0, vs0, d0, ds0, p0, q0, hargs, rfl, rfl, h0, r0⟩ := trodAll_cons hA
    obtain ⟨rfl, rfl, rfl⟩ := trodAll_nil r0
    obtain rfl : args = #[v0] := by cases args; simp_all
    obtain ⟨k0, a0, n0, c0, l0, rfl, wk0, hl0⟩ := shift_of_trod Try.underlying27 (by kernel_rfl) (by kernel_rfl) Try.underlying3 Try.underlying25 Try.underlying9 (by kernel_rfl) (hval 0 27 v0 rfl rfl) h0
    exact lawIsEmptyShift W hshp k0 _ l0 wk0 hl0

set_option maxRecDepth 100000 in
theorem fnExactIsEmptyShift_holds : Rows.FnExactIsEmptyShiftSaid :=
  OpenClaim.holds_of_wide 7 Try.f7 rfl rfl rfl rfl rfl rfl rfl ⟨rfl, rfl, rfl, rfl, rfl⟩ rfl rfl rfl rfl rfl (by kernel_rfl) Try.func7 (by kernel_rfl)
    (of_decide_eq_true (by kernel_rfl)) (by unfold Func.isWrapper; first | (rw [if_pos (by decide +kernel)]; kernel_rfl) | (rw [if_neg (by decide +kernel)]; exact ⟨rfl, rfl⟩))
    (fun os started H enc _ => fnExactIsEmptyShift_lifted os started H enc)

end Go.Proofs.Ytidfnhoeaofgeaa
