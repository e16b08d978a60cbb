/- FnExactPathsOf returns true for every input and leaves its arguments as they were. No conditions. -/
import Derived.Test.YtacgnbbogjdfkaaPathI
import Derived.Test.YtacgnbbogjdfkaaMark
import Derived.Test.YtacgnbbogjdfkaaFrame
namespace Go.Proofs.Ytacgnbbogjdfkaa
open Go.RowKit Go.Deep Go.ChangeShapes Go.WideShapes Go.ChangeAt

set_option maxRecDepth 10000 in
set_option maxHeartbeats 400000 in
theorem lawPathsOf (w : World) (v : Value) (m : List (List Int)) (h : Mat w v m) (x : Int) (_ : (Lit.int .i64 x).wf = true) :
    Calls Try.prog 8 #[v, .int .i64 x] w fun e w' => e = .returned (.bool true) ∧ Below w.heap.size w w' := by
  have hP := pathsOf_size m x
  go_enter Try.func8, Try.ntmps8
  go_wp2_with fail
  refine (szIntSS v m 1048576 _ h (by omega) (by omega)).mono ?_
  rintro e w' ⟨⟨r0, rfl, hr0a, hr0b, HR0⟩, rfl⟩
  by_cases hr0 : r0 < 0
  · go_wp2
    go_ret
    exact ⟨rfl, Below.refl _ _⟩
  have hs0 : m.length + total m ≤ 1048576 := by have := HR0.out (by omega); omega
  go_wp2_with fail
  refine (toIntSS v m _ h hs0).mono ?_
  rintro e wa0 ⟨va0, rfl, oa0, hba0⟩
  have b1 := hba0
  have z1 := hba0.size
  replace oa0 := oa0.toH
  go_wp2_with fail
  refine (sPathsOf va0 m x _ oa0.mat).mono ?_
  rintro e wS ⟨gS, rfl, oS, hbS⟩
  have b2 := b1.trans (hbS.mono b1.size)
  have z2 := hbS.size
  replace oa0 := oa0.keep hbS
  replace oS := oS.toH
  clear oa0
  go_wp2_with fail
  refine (toIntSS v m _ (h.keep b2) hs0).mono ?_
  rintro e wx0 ⟨vx0, rfl, ox0, hbx0⟩
  have b3 := b2.trans (hbx0.mono b2.size)
  have z3 := hbx0.size
  replace oS := oS.keep hbx0
  replace ox0 := ox0.toH
  go_wp2_with fail
  refine (iPathsOf vx0 m x _ ox0.mat).mono ?_
  rintro e wG ⟨gG, rfl, oG, hbG⟩
  have b4 := b3.trans (hbG.mono b3.size)
  have z4 := hbG.size
  replace oS := oS.keep hbG
  replace ox0 := ox0.keep hbG
  replace oG := oG.toH
  go_wp2_with fail
  refine (eqIntSS _ _ _ _ _ oG.mat oS.mat).mono ?_
  rintro e we1 ⟨rfl, hde1⟩
  have b5 := b4.trans (hde1.below w.heap.size)
  have z5 := (hde1.below 0).size
  replace oS := oS.keep (hde1.below _)
  replace ox0 := ox0.keep (hde1.below _)
  replace oG := oG.keep (hde1.below _)
  rw [same_refl]
  go_wp2_with fail
  refine (toIntSS v m _ (h.keep b5) hs0).mono ?_
  rintro e wy0 ⟨vy0, rfl, oy0, hby0⟩
  have b6 := b5.trans (hby0.mono b5.size)
  have z6 := hby0.size
  replace oS := oS.keep hby0
  replace ox0 := ox0.keep hby0
  replace oG := oG.keep hby0
  replace oy0 := oy0.toH
  go_wp2_with fail
  refine (eqIntSS _ _ _ _ _ ox0.mat oy0.mat).mono ?_
  rintro e wz0 ⟨rfl, hdz0⟩
  clear oy0
  have b7 := b6.trans (hdz0.below w.heap.size)
  have z7 := (hdz0.below 0).size
  replace oS := oS.keep (hdz0.below _)
  replace ox0 := ox0.keep (hdz0.below _)
  replace oG := oG.keep (hdz0.below _)
  rw [same_refl]
  go_wp2_with fail
  refine (markIntSS _ _ _ _ _ _ ox0 (by omega) (by omega) (by omega)).mono ?_
  rintro e wm0 ⟨rfl, om0, hc0⟩
  have b8 := b7.trans (hc0.below (by omega) b7.size)
  have z8 := Nat.le_of_eq hc0.size.symm
  have y8 := Nat.le_of_eq hc0.size
  replace oS := oS.chg hc0 (by omega)
  replace oG := oG.chg hc0 (by omega)
  clear ox0
  clear om0
  go_wp2_with fail
  refine (eqIntSS _ _ _ _ _ oG.mat oS.mat).mono ?_
  rintro e we2 ⟨rfl, hde2⟩
  have b9 := b8.trans (hde2.below w.heap.size)
  have z9 := (hde2.below 0).size
  replace oS := oS.keep (hde2.below _)
  replace oG := oG.keep (hde2.below _)
  rw [same_refl]
  go_wp2_with fail
  refine (markIntSS _ _ _ _ _ _ oG (by omega) (by omega) (by omega)).mono ?_
  rintro e wmG ⟨rfl, omG, hcG⟩
  have b10 := b9.trans (hcG.below (by omega) b9.size)
  have z10 := Nat.le_of_eq hcG.size.symm
  have y10 := Nat.le_of_eq hcG.size
  replace oS := oS.chg hcG (by omega)
  clear oG
  go_wp2_with fail
  refine (heldIntSS _ _ _ _ omG.mat (by omega) (by omega) (by omega)).mono ?_
  rintro e wh1 ⟨rfl, hdh1⟩
  have b11 := b10.trans (hdh1.below w.heap.size)
  have z11 := (hdh1.below 0).size
  replace oS := oS.keep (hdh1.below _)
  replace omG := omG.keep (hdh1.below _)
  go_wp2_with fail
  refine (toIntSS v m _ (h.keep b11) hs0).mono ?_
  rintro e wc0 ⟨vc0, rfl, oc0, hbc0⟩
  have b12 := b11.trans (hbc0.mono b11.size)
  have z12 := hbc0.size
  replace oS := oS.keep hbc0
  replace omG := omG.keep hbc0
  replace oc0 := oc0.toH
  go_wp2_with fail
  refine (iPathsOf vc0 m x _ oc0.mat).mono ?_
  rintro e wH ⟨gH, rfl, oH, hbH⟩
  have b13 := b12.trans (hbH.mono b12.size)
  have z13 := hbH.size
  replace oS := oS.keep hbH
  replace omG := omG.keep hbH
  replace oc0 := oc0.keep hbH
  replace oH := oH.toH
  go_wp2_with fail
  refine (eqIntSS _ _ _ _ _ oH.mat oS.mat).mono ?_
  rintro e we3 ⟨rfl, hde3⟩
  have b14 := b13.trans (hde3.below w.heap.size)
  have z14 := (hde3.below 0).size
  replace oS := oS.keep (hde3.below _)
  replace omG := omG.keep (hde3.below _)
  replace oc0 := oc0.keep (hde3.below _)
  replace oH := oH.keep (hde3.below _)
  rw [same_refl]
  clear oH
  clear oS
  clear oc0
  go_wp2_with fail
  refine (heldIntSS _ _ _ _ omG.mat (by omega) (by omega) (by omega)).mono ?_
  rintro e wh2 ⟨rfl, hdh2⟩
  have b15 := b14.trans (hdh2.below w.heap.size)
  have z15 := (hdh2.below 0).size
  replace omG := omG.keep (hdh2.below _)
  go_wp2
  go_ret
  exact ⟨rfl, b15⟩
theorem fnExactPathsOf_lifted (os : Os) (started : os.Started) (H : Type) (enc : TypeId × Value → H) :
    ReturnsInHanded {} Try.checked os 8 .any (Rows.fnExactPathsOfSpec.pre6 enc Try.prog Try.f8 Rows.fnExactPathsOfRow.domain false) (Rows.fnExactPathsOfSpec.post enc Try.prog Try.f8 false true false false) := by
  refine lifted_law started (by kernel_rfl) Try.func8
    (ChangeSpec.witness6 (enc := enc) (C := Try.checked) false ⟨#[], #[.slice none 0 0, .int .i64 0], []⟩ 8 (by kernel_rfl) (by kernel_rfl) (by kernel_rfl) (by kernel_rfl))
    rfl (by kernel_rfl) (by kernel_rfl) ?_ ?_
  · intro ds hl
    match ds, hl with
    | [d0, d1], _ => rfl
  · intro W base args ds p hval hA
    rw [Try.params8] at hval hA
    obtain ⟨v0, vs0, d0, ds0, p0, q0, hargs, rfl, rfl, h0, r0⟩ := trodAll_cons hA
    obtain ⟨v1, vs1, d1, ds1, p1, q1, rfl, rfl, rfl, h1, r1⟩ := trodAll_cons r0
    obtain ⟨rfl, rfl, rfl⟩ := trodAll_nil r1
    obtain rfl : args = #[v0, v1] := by cases args; simp_all
    obtain ⟨a0, n0, c0, rfl⟩ := okWide_slice Try.underlying22 (hval 0 22 v0 rfl rfl)
    obtain ⟨m0, hm0⟩ := mat_of_trod Try.underlying22 Try.underlying33 Try.underlying3 (by kernel_rfl) (by kernel_rfl) rfl h0
    obtain ⟨x1, rfl, rfl, rfl, wx1⟩ := open_int Try.underlying3 (hval 1 3 v1 rfl rfl) h1
    exact lawPathsOf W _ m0 hm0 x1 wx1

theorem fnExactPathsOf_holds : Rows.FnExactPathsOfSaid :=
  OpenClaim.holds_of_wide 8 Try.f8 rfl rfl rfl rfl rfl rfl rfl ⟨rfl, rfl, rfl, rfl, rfl⟩ rfl rfl rfl rfl rfl (by kernel_rfl) Try.func8 (by kernel_rfl)
    (of_decide_eq_true (by kernel_rfl)) (by unfold Func.isWrapper; first | (rw [if_pos (by decide +kernel)]; kernel_rfl) | (rw [if_neg (by decide +kernel)]; exact ⟨rfl, rfl⟩))
    (fun os started H enc _ => fnExactPathsOf_lifted os started H enc)

end Go.Proofs.Ytacgnbbogjdfkaa
