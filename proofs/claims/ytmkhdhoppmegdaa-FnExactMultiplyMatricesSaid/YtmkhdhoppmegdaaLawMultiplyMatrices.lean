/- FnExactMultiplyMatrices returns true for every input and leaves its arguments as they were. No conditions. -/
import Derived.Test.YtmkhdhoppmegdaaMatF
import Derived.Test.YtmkhdhoppmegdaaMark
import Derived.Test.YtmkhdhoppmegdaaFrame
namespace Go.Proofs.Ytmkhdhoppmegdaa
open Go.RowKit Go.Deep Go.ChangeShapes Go.WideShapes Go.ChangeAt

set_option maxRecDepth 10000 in
set_option maxHeartbeats 400000 in
theorem lawMultiplyMatrices (w : World) (v : Value) (m : List (List Int)) (h : Mat w v m) (u : Value) (l : List (List Int)) (k : Mat w u l) :
    Calls Try.prog 8 #[v, u] w fun e w' => e = .returned (.bool true) ∧ Below w.heap.size w w' := by
  have hP := mulM_size m l
  go_enter Try.func8, Try.ntmps8
  go_wp2_with fail
  refine (szIntSS v m 1048576 _ h (by omega) (by omega)).mono ?_
  rintro e w' ⟨⟨r0, rfl, hr0a, hr0b, HR0⟩, rfl⟩
  by_cases hr0 : r0 < 0
  · go_wp2
    go_ret
    exact ⟨rfl, Below.refl _ _⟩
  have hs0 : m.length + total m ≤ 1048576 := by have := HR0.out (by omega); omega
  go_wp2_with fail
  refine (szIntSS u l r0 _ k (by omega) (by omega)).mono ?_
  rintro e w' ⟨⟨r1, rfl, hr1a, hr1b, HR1⟩, rfl⟩
  by_cases hr1 : r1 < 0
  · go_wp2
    go_ret
    exact ⟨rfl, Below.refl _ _⟩
  have hs1 : l.length + total l ≤ 1048576 := by have := HR1.out (by omega); omega
  go_wp2_with fail
  refine (toIntSS v m _ h hs0).mono ?_
  rintro e wa0 ⟨va0, rfl, oa0, hba0⟩
  have b1 := hba0
  have z1 := hba0.size
  replace oa0 := oa0.toH
  go_wp2_with fail
  refine (toIntSS u l _ (k.keep b1) hs1).mono ?_
  rintro e wa1 ⟨va1, rfl, oa1, hba1⟩
  have b2 := b1.trans (hba1.mono b1.size)
  have z2 := hba1.size
  replace oa0 := oa0.keep hba1
  replace oa1 := oa1.toH
  go_wp2_with fail
  refine (sMultiplyMatrices va0 va1 m l _ oa0.mat oa1.mat).mono ?_
  rintro e wS ⟨gS, rfl, oS, hbS⟩
  have b3 := b2.trans (hbS.mono b2.size)
  have z3 := hbS.size
  replace oa0 := oa0.keep hbS
  replace oa1 := oa1.keep hbS
  replace oS := oS.toH
  clear oa0
  clear oa1
  go_wp2_with fail
  refine (toIntSS v m _ (h.keep b3) hs0).mono ?_
  rintro e wx0 ⟨vx0, rfl, ox0, hbx0⟩
  have b4 := b3.trans (hbx0.mono b3.size)
  have z4 := hbx0.size
  replace oS := oS.keep hbx0
  replace ox0 := ox0.toH
  go_wp2_with fail
  refine (toIntSS u l _ (k.keep b4) hs1).mono ?_
  rintro e wx1 ⟨vx1, rfl, ox1, hbx1⟩
  have b5 := b4.trans (hbx1.mono b4.size)
  have z5 := hbx1.size
  replace oS := oS.keep hbx1
  replace ox0 := ox0.keep hbx1
  replace ox1 := ox1.toH
  go_wp2_with fail
  refine (iMultiplyMatrices vx0 vx1 m l _ ox0.mat ox1.mat).mono ?_
  rintro e wG ⟨gG, rfl, oG, hbG⟩
  have b6 := b5.trans (hbG.mono b5.size)
  have z6 := hbG.size
  replace oS := oS.keep hbG
  replace ox0 := ox0.keep hbG
  replace ox1 := ox1.keep hbG
  replace oG := oG.toH
  go_wp2_with fail
  refine (eqIntSS _ _ _ _ _ oG.mat oS.mat).mono ?_
  rintro e we1 ⟨rfl, hde1⟩
  have b7 := b6.trans (hde1.below w.heap.size)
  have z7 := (hde1.below 0).size
  replace oS := oS.keep (hde1.below _)
  replace ox0 := ox0.keep (hde1.below _)
  replace ox1 := ox1.keep (hde1.below _)
  replace oG := oG.keep (hde1.below _)
  rw [same_refl]
  go_wp2_with fail
  refine (toIntSS v m _ (h.keep b7) hs0).mono ?_
  rintro e wy0 ⟨vy0, rfl, oy0, hby0⟩
  have b8 := b7.trans (hby0.mono b7.size)
  have z8 := hby0.size
  replace oS := oS.keep hby0
  replace ox0 := ox0.keep hby0
  replace ox1 := ox1.keep hby0
  replace oG := oG.keep hby0
  replace oy0 := oy0.toH
  go_wp2_with fail
  refine (eqIntSS _ _ _ _ _ ox0.mat oy0.mat).mono ?_
  rintro e wz0 ⟨rfl, hdz0⟩
  clear oy0
  have b9 := b8.trans (hdz0.below w.heap.size)
  have z9 := (hdz0.below 0).size
  replace oS := oS.keep (hdz0.below _)
  replace ox0 := ox0.keep (hdz0.below _)
  replace ox1 := ox1.keep (hdz0.below _)
  replace oG := oG.keep (hdz0.below _)
  rw [same_refl]
  go_wp2_with fail
  refine (toIntSS u l _ (k.keep b9) hs1).mono ?_
  rintro e wy1 ⟨vy1, rfl, oy1, hby1⟩
  have b10 := b9.trans (hby1.mono b9.size)
  have z10 := hby1.size
  replace oS := oS.keep hby1
  replace ox0 := ox0.keep hby1
  replace ox1 := ox1.keep hby1
  replace oG := oG.keep hby1
  replace oy1 := oy1.toH
  go_wp2_with fail
  refine (eqIntSS _ _ _ _ _ ox1.mat oy1.mat).mono ?_
  rintro e wz1 ⟨rfl, hdz1⟩
  clear oy1
  have b11 := b10.trans (hdz1.below w.heap.size)
  have z11 := (hdz1.below 0).size
  replace oS := oS.keep (hdz1.below _)
  replace ox0 := ox0.keep (hdz1.below _)
  replace ox1 := ox1.keep (hdz1.below _)
  replace oG := oG.keep (hdz1.below _)
  rw [same_refl]
  go_wp2_with fail
  refine (markIntSS _ _ _ _ _ _ ox0 (by omega) (by omega) (by omega)).mono ?_
  rintro e wm0 ⟨rfl, om0, hc0⟩
  have b12 := b11.trans (hc0.below (by omega) b11.size)
  have z12 := Nat.le_of_eq hc0.size.symm
  have y12 := Nat.le_of_eq hc0.size
  replace oS := oS.chg hc0 (by omega)
  replace ox1 := ox1.chg hc0 (by omega)
  replace oG := oG.chg hc0 (by omega)
  clear ox0
  clear om0
  go_wp2_with fail
  refine (markIntSS _ _ _ _ _ _ ox1 (by omega) (by omega) (by omega)).mono ?_
  rintro e wm1 ⟨rfl, om1, hc1⟩
  have b13 := b12.trans (hc1.below (by omega) b12.size)
  have z13 := Nat.le_of_eq hc1.size.symm
  have y13 := Nat.le_of_eq hc1.size
  replace oS := oS.chg hc1 (by omega)
  replace oG := oG.chg hc1 (by omega)
  clear ox1
  clear om1
  go_wp2_with fail
  refine (eqIntSS _ _ _ _ _ oG.mat oS.mat).mono ?_
  rintro e we2 ⟨rfl, hde2⟩
  have b14 := b13.trans (hde2.below w.heap.size)
  have z14 := (hde2.below 0).size
  replace oS := oS.keep (hde2.below _)
  replace oG := oG.keep (hde2.below _)
  rw [same_refl]
  go_wp2_with fail
  refine (markIntSS _ _ _ _ _ _ oG (by omega) (by omega) (by omega)).mono ?_
  rintro e wmG ⟨rfl, omG, hcG⟩
  have b15 := b14.trans (hcG.below (by omega) b14.size)
  have z15 := Nat.le_of_eq hcG.size.symm
  have y15 := Nat.le_of_eq hcG.size
  replace oS := oS.chg hcG (by omega)
  clear oG
  go_wp2_with fail
  refine (heldIntSS _ _ _ _ omG.mat (by omega) (by omega) (by omega)).mono ?_
  rintro e wh1 ⟨rfl, hdh1⟩
  have b16 := b15.trans (hdh1.below w.heap.size)
  have z16 := (hdh1.below 0).size
  replace oS := oS.keep (hdh1.below _)
  replace omG := omG.keep (hdh1.below _)
  go_wp2_with fail
  refine (toIntSS v m _ (h.keep b16) hs0).mono ?_
  rintro e wc0 ⟨vc0, rfl, oc0, hbc0⟩
  have b17 := b16.trans (hbc0.mono b16.size)
  have z17 := hbc0.size
  replace oS := oS.keep hbc0
  replace omG := omG.keep hbc0
  replace oc0 := oc0.toH
  go_wp2_with fail
  refine (toIntSS u l _ (k.keep b17) hs1).mono ?_
  rintro e wc1 ⟨vc1, rfl, oc1, hbc1⟩
  have b18 := b17.trans (hbc1.mono b17.size)
  have z18 := hbc1.size
  replace oS := oS.keep hbc1
  replace omG := omG.keep hbc1
  replace oc0 := oc0.keep hbc1
  replace oc1 := oc1.toH
  go_wp2_with fail
  refine (iMultiplyMatrices vc0 vc1 m l _ oc0.mat oc1.mat).mono ?_
  rintro e wH ⟨gH, rfl, oH, hbH⟩
  have b19 := b18.trans (hbH.mono b18.size)
  have z19 := hbH.size
  replace oS := oS.keep hbH
  replace omG := omG.keep hbH
  replace oc0 := oc0.keep hbH
  replace oc1 := oc1.keep hbH
  replace oH := oH.toH
  go_wp2_with fail
  refine (eqIntSS _ _ _ _ _ oH.mat oS.mat).mono ?_
  rintro e we3 ⟨rfl, hde3⟩
  have b20 := b19.trans (hde3.below w.heap.size)
  have z20 := (hde3.below 0).size
  replace oS := oS.keep (hde3.below _)
  replace omG := omG.keep (hde3.below _)
  replace oc0 := oc0.keep (hde3.below _)
  replace oc1 := oc1.keep (hde3.below _)
  replace oH := oH.keep (hde3.below _)
  rw [same_refl]
  clear oH
  clear oS
  clear oc0
  clear oc1
  go_wp2_with fail
  refine (heldIntSS _ _ _ _ omG.mat (by omega) (by omega) (by omega)).mono ?_
  rintro e wh2 ⟨rfl, hdh2⟩
  have b21 := b20.trans (hdh2.below w.heap.size)
  have z21 := (hdh2.below 0).size
  replace omG := omG.keep (hdh2.below _)
  go_wp2
  go_ret
  exact ⟨rfl, b21⟩
theorem fnExactMultiplyMatrices_lifted (os : Os) (started : os.Started) (H : Type) (enc : TypeId × Value → H) :
    ReturnsInHanded {} Try.checked os 8 .any (Rows.fnExactMultiplyMatricesSpec.pre6 enc Try.prog Try.f8 Rows.fnExactMultiplyMatricesRow.domain false) (Rows.fnExactMultiplyMatricesSpec.post enc Try.prog Try.f8 false true false false) := by
  refine lifted_law started (by kernel_rfl) Try.func8
    (ChangeSpec.witness6 (enc := enc) (C := Try.checked) false ⟨#[], #[.slice none 0 0, .slice none 0 0], []⟩ 8 (by kernel_rfl) (by kernel_rfl) (by kernel_rfl) (by kernel_rfl))
    rfl (by kernel_rfl) (by kernel_rfl) ?_ ?_
  · intro ds hl
    match ds, hl with
    | [d0, d1], _ => rfl
  · intro W base args ds p hval hA
    rw [Try.params8] at hval hA
    obtain ⟨v0, vs0, d0, ds0, p0, q0, hargs, rfl, rfl, h0, r0⟩ := trodAll_cons hA
    obtain ⟨v1, vs1, d1, ds1, p1, q1, rfl, rfl, rfl, h1, r1⟩ := trodAll_cons r0
    obtain ⟨rfl, rfl, rfl⟩ := trodAll_nil r1
    obtain rfl : args = #[v0, v1] := by cases args; simp_all
    obtain ⟨a0, n0, c0, rfl⟩ := okWide_slice Try.underlying22 (hval 0 22 v0 rfl rfl)
    obtain ⟨m0, hm0⟩ := mat_of_trod Try.underlying22 Try.underlying28 Try.underlying3 (by kernel_rfl) (by kernel_rfl) rfl h0
    obtain ⟨a1, n1, c1, rfl⟩ := okWide_slice Try.underlying22 (hval 1 22 v1 rfl rfl)
    obtain ⟨m1, hm1⟩ := mat_of_trod Try.underlying22 Try.underlying28 Try.underlying3 (by kernel_rfl) (by kernel_rfl) rfl h1
    exact lawMultiplyMatrices W _ m0 hm0 _ m1 hm1

theorem fnExactMultiplyMatrices_holds : Rows.FnExactMultiplyMatricesSaid :=
  OpenClaim.holds_of_wide 8 Try.f8 rfl rfl rfl rfl rfl rfl rfl ⟨rfl, rfl, rfl, rfl, rfl⟩ rfl rfl rfl rfl rfl (by kernel_rfl) Try.func8 (by kernel_rfl)
    (of_decide_eq_true (by kernel_rfl)) (by unfold Func.isWrapper; first | (rw [if_pos (by decide +kernel)]; kernel_rfl) | (rw [if_neg (by decide +kernel)]; exact ⟨rfl, rfl⟩))
    (fun os started H enc _ => fnExactMultiplyMatrices_lifted os started H enc)

end Go.Proofs.Ytmkhdhoppmegdaa
