/- FnExactCountPaths returns true for every input and leaves its arguments as they were. No conditions. -/
import Derived.Test.YtacgnbbogjdfkaaPow
import Derived.Test.YtacgnbbogjdfkaaFrame
namespace Go.Proofs.Ytacgnbbogjdfkaa
open Go.RowKit Go.Deep Go.ChangeShapes Go.WideShapes Go.ChangeAt

set_option maxRecDepth 10000 in
set_option maxHeartbeats 400000 in
theorem lawCountPaths (w : World) (v : Value) (m : List (List Int)) (h : Mat w v m) (x : Int) (_ : (Lit.int .i64 x).wf = true) :
    Calls Try.prog 4 #[v, .int .i64 x] w fun e w' => e = .returned (.bool true) ∧ Below w.heap.size w w' := by
  go_enter Try.func4, Try.ntmps4
  go_wp2_with fail
  refine (szIntSS v m 1048576 _ h (by omega) (by omega)).mono ?_
  rintro e w' ⟨⟨r0, rfl, hr0a, hr0b, HR0⟩, rfl⟩
  by_cases hr0 : r0 < 0
  · go_wp2
    go_ret
    exact ⟨rfl, Below.refl _ _⟩
  have hs0 : m.length + total m ≤ 1048576 := by have := HR0.out (by omega); omega
  go_wp2_with fail
  refine (toIntSS v m _ h hs0).mono ?_
  rintro e wa0 ⟨va0, rfl, oa0, hba0⟩
  have b1 := hba0
  have z1 := hba0.size
  replace oa0 := oa0.toH
  go_wp2_with fail
  refine (sCountPaths va0 m x _ oa0.mat).mono ?_
  rintro e wS ⟨rfl, hbS⟩
  have b2 := b1.trans (hbS.mono b1.size)
  have z2 := hbS.size
  replace oa0 := oa0.keep hbS
  clear oa0
  go_wp2_with fail
  refine (toIntSS v m _ (h.keep b2) hs0).mono ?_
  rintro e wx0 ⟨vx0, rfl, ox0, hbx0⟩
  have b3 := b2.trans (hbx0.mono b2.size)
  have z3 := hbx0.size
  replace ox0 := ox0.toH
  go_wp2_with fail
  refine (iCountPaths vx0 m x _ ox0.mat).mono ?_
  rintro e wG ⟨rfl, hbG⟩
  have b4 := b3.trans (hbG.mono b3.size)
  have z4 := hbG.size
  replace ox0 := ox0.keep hbG
  go_wp2_with fail
  refine (toIntSS v m _ (h.keep b4) hs0).mono ?_
  rintro e wy0 ⟨vy0, rfl, oy0, hby0⟩
  have b5 := b4.trans (hby0.mono b4.size)
  have z5 := hby0.size
  replace ox0 := ox0.keep hby0
  replace oy0 := oy0.toH
  go_wp2_with fail
  refine (eqIntSS _ _ _ _ _ ox0.mat oy0.mat).mono ?_
  rintro e wz0 ⟨rfl, hdz0⟩
  clear oy0
  have b6 := b5.trans (hdz0.below w.heap.size)
  have z6 := (hdz0.below 0).size
  replace ox0 := ox0.keep (hdz0.below _)
  rw [same_refl]
  clear ox0
  go_wp2
  go_ret
  exact ⟨rfl, b6⟩
theorem fnExactCountPaths_lifted (os : Os) (started : os.Started) (H : Type) (enc : TypeId × Value → H) :
    ReturnsInHanded {} Try.checked os 4 .any (Rows.fnExactCountPathsSpec.pre6 enc Try.prog Try.f4 Rows.fnExactCountPathsRow.domain false) (Rows.fnExactCountPathsSpec.post enc Try.prog Try.f4 false true false false) := by
  refine lifted_law started (by kernel_rfl) Try.func4
    (ChangeSpec.witness6 (enc := enc) (C := Try.checked) false ⟨#[], #[.slice none 0 0, .int .i64 0], []⟩ 8 (by kernel_rfl) (by kernel_rfl) (by kernel_rfl) (by kernel_rfl))
    rfl (by kernel_rfl) (by kernel_rfl) ?_ ?_
  · intro ds hl
    match ds, hl with
    | [d0, d1], _ => rfl
  · intro W base args ds p hval hA
    rw [Try.params4] at hval hA
    obtain ⟨v0, vs0, d0, ds0, p0, q0, hargs, rfl, rfl, h0, r0⟩ := trodAll_cons hA
    obtain ⟨v1, vs1, d1, ds1, p1, q1, rfl, rfl, rfl, h1, r1⟩ := trodAll_cons r0
    obtain ⟨rfl, rfl, rfl⟩ := trodAll_nil r1
    obtain rfl : args = #[v0, v1] := by cases args; simp_all
    obtain ⟨a0, n0, c0, rfl⟩ := okWide_slice Try.underlying22 (hval 0 22 v0 rfl rfl)
    obtain ⟨m0, hm0⟩ := mat_of_trod Try.underlying22 Try.underlying33 Try.underlying3 (by kernel_rfl) (by kernel_rfl) rfl h0
    obtain ⟨x1, rfl, rfl, rfl, wx1⟩ := open_int Try.underlying3 (hval 1 3 v1 rfl rfl) h1
    exact lawCountPaths W _ m0 hm0 x1 wx1

theorem fnExactCountPaths_holds : Rows.FnExactCountPathsSaid :=
  OpenClaim.holds_of_wide 4 Try.f4 rfl rfl rfl rfl rfl rfl rfl ⟨rfl, rfl, rfl, rfl, rfl⟩ rfl rfl rfl rfl rfl (by kernel_rfl) Try.func4 (by kernel_rfl)
    (of_decide_eq_true (by kernel_rfl)) (by unfold Func.isWrapper; first | (rw [if_pos (by decide +kernel)]; kernel_rfl) | (rw [if_neg (by decide +kernel)]; exact ⟨rfl, rfl⟩))
    (fun os started H enc _ => fnExactCountPaths_lifted os started H enc)

end Go.Proofs.Ytacgnbbogjdfkaa
