/- FnExactFactorsOf returns true for every input and leaves its arguments as they were. No conditions. -/
import Derived.Test.YtidfnhoeaofgeaaFacS
import Derived.Test.YtidfnhoeaofgeaaMarkS
import Derived.Test.YtidfnhoeaofgeaaFrame
namespace Go.Proofs.Ytidfnhoeaofgeaa
open Go.RowKit Go.Deep Go.ChangeShapes Go.WideShapes Go.ChangeAt

set_option maxRecDepth 10000 in
set_option maxHeartbeats 800000 in
theorem lawFactorsOf (w : World) (s : ByteArray) (_ : s.size ≤ maxLen) (n : Int) (_ : (Lit.int .i64 n).wf = true) :
    Calls Try.prog 10 #[.string s, .int .i64 n] w fun e w' => e = .returned (.bool true) ∧ Below w.heap.size w w' := by
  by_cases hbs : 1048576 < (s.size : Int)
  · go_enter Try.func10, Try.ntmps10
    go_wp2
    go_ret
    exact ⟨rfl, Below.refl _ _⟩
  have hss : s.size ≤ 1048576 := by omega
  have hP := facL_len s n
  go_enter Try.func10, Try.ntmps10
  go_wp2_with fail
  refine (sFactorsOf s n _ hss).mono ?_
  rintro e w1 ⟨v1, rfl, (ho1 : OwnS _ _ _ _ _), b1⟩
  replace ho1 := ho1.toH
  go_wp2_with fail
  refine (iFactorsOf s n _ hss).mono ?_
  rintro e w2 ⟨v2, rfl, (ho2 : OwnS _ _ _ _ _), hb2⟩
  replace ho2 := ho2.toH
  replace ho1 := ho1.keep hb2
  have b2 := belowN b1 hb2
  go_wp2_with fail
  refine (eqStringS _ _ _ _ _ ho2.strs ho1.strs).mono ?_
  rintro e w3 ⟨rfl, hd3⟩
  replace ho1 := ho1.keep (hd3.below _)
  replace ho2 := ho2.keep (hd3.below _)
  have b3 := b2.trans (hd3.below _)
  rw [same_refl]
  have z1 := b1.size
  have z2 := hb2.size
  have z3 := (hd3.below 0).size
  go_wp2_with fail
  refine (markStringS _ _ _ 1 _ ho2.1 (by omega) (by omega)).mono ?_
  rintro e w4 ⟨rfl, om, hg4⟩
  replace ho1 := ho1.grown2 hg4 (fun k hk => (ho2.1.lt k hk).1)
  have b4 := b3.trans (ho2.1.below hg4 z1 (by omega))
  have z4 := hg4.size
  clear ho2
  go_wp2_with fail
  refine (heldStringS _ _ 1 _ om.row (by omega) (by omega)).mono ?_
  rintro e w5 ⟨rfl, hb5⟩
  replace ho1 := ho1.keep hb5
  replace om := om.keep hb5
  have b5 := belowN b4 hb5
  go_wp2_with fail
  refine (iFactorsOf s n _ hss).mono ?_
  rintro e w6 ⟨v6, rfl, (ho6 : OwnS _ _ _ _ _), hb6⟩
  replace ho1 := ho1.keep hb6
  replace om := om.keep hb6
  have b6 := belowN b5 hb6
  go_wp2_with fail
  refine (eqStringS _ _ _ _ _ ho6.strs ho1.strs).mono ?_
  rintro e w7 ⟨rfl, hd7⟩
  replace om := om.keep (hd7.below _)
  have b7 := b6.trans (hd7.below _)
  rw [same_refl]
  clear ho1 ho6
  go_wp2_with fail
  refine (heldStringS _ _ 1 _ om.row (by omega) (by omega)).mono ?_
  rintro e w8 ⟨rfl, hb8⟩
  have b8 := belowN b7 hb8
  go_wp2
  go_ret
  exact ⟨rfl, b8⟩
set_option maxRecDepth 100000 in
theorem fnExactFactorsOf_lifted (os : Os) (started : os.Started) (H : Type) (enc : TypeId × Value → H) :
    ReturnsInHanded {} Try.checked os 10 .any (Rows.fnExactFactorsOfSpec.pre6 enc Try.prog Try.f10 Rows.fnExactFactorsOfRow.domain false) (Rows.fnExactFactorsOfSpec.post enc Try.prog Try.f10 false true false false) := by
  refine lifted_law started (by kernel_rfl) Try.func10
    (ChangeSpec.witness6 (enc := enc) (C := Try.checked) false ⟨#[], #[.string ByteArray.empty, .int .i64 0], []⟩ 8 (by kernel_rfl) (by kernel_rfl) (by kernel_rfl) (by kernel_rfl))
    rfl (by kernel_rfl) (by kernel_rfl) ?_ ?_
  · intro ds hl
    match ds, hl with
    | [d0, d1], _ => rfl
  · intro W base args ds p hval hA
    rw [Try.params10] at hval hA
    obtain ⟨v0, vs0, d0, ds0, p0, q0, hargs, rfl, rfl, h0, r0⟩ := trodAll_cons hA
    obtain ⟨v1, vs1, d1, ds1, p1, q1, rfl, rfl, rfl, h1, r1⟩ := trodAll_cons r0
    obtain ⟨rfl, rfl, rfl⟩ := trodAll_nil r1
    obtain rfl : args = #[v0, v1] := by cases args; simp_all
    obtain ⟨s0, rfl, rfl, rfl, ws0⟩ := Go.ChangeMaps.open_string Try.underlying9 (hval 0 9 v0 rfl rfl) h0
    obtain ⟨x1, rfl, rfl, rfl, wx1⟩ := open_int Try.underlying3 (hval 1 3 v1 rfl rfl) h1
    exact lawFactorsOf W s0 ws0 x1 wx1

set_option maxRecDepth 100000 in
theorem fnExactFactorsOf_holds : Rows.FnExactFactorsOfSaid :=
  OpenClaim.holds_of_wide 10 Try.f10 rfl rfl rfl rfl rfl rfl rfl ⟨rfl, rfl, rfl, rfl, rfl⟩ rfl rfl rfl rfl rfl (by kernel_rfl) Try.func10 (by kernel_rfl)
    (of_decide_eq_true (by kernel_rfl)) (by unfold Func.isWrapper; first | (rw [if_pos (by decide +kernel)]; kernel_rfl) | (rw [if_neg (by decide +kernel)]; exact ⟨rfl, rfl⟩))
    (fun os started H enc _ => fnExactFactorsOf_lifted os started H enc)

end Go.Proofs.Ytidfnhoeaofgeaa
