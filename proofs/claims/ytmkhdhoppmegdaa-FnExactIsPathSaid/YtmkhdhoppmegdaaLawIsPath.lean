/- FnExactIsPath returns true for every input and leaves its arguments as they were. No conditions. -/
import Derived.Test.YtmkhdhoppmegdaaPath
import Derived.Test.YtmkhdhoppmegdaaOwnI
import Derived.Test.YtmkhdhoppmegdaaFrame
namespace Go.Proofs.Ytmkhdhoppmegdaa
open Go.RowKit Go.Deep Go.ChangeShapes Go.WideShapes Go.ChangeAt

set_option maxRecDepth 10000 in
set_option maxHeartbeats 400000 in
theorem lawIsPath (w : World) (v : Value) (m : List (List Int)) (h : Mat w v m) (u : Value) (p : List Int) (k : Ints w u p) :
    Calls Try.prog 6 #[v, u] w fun e w' => e = .returned (.bool true) ∧ Below w.heap.size w w' := by
  obtain ⟨ua1, un1, uc1, rfl, HU1, hun1, -⟩ := k.open
  by_cases hub1 : 1048576 < (un1 : Int)
  · go_enter Try.func6, Try.ntmps6
    go_wp2
    go_ret
    exact ⟨rfl, Below.refl _ _⟩
  have hs1 : p.length ≤ 1048576 := by rw [HU1.out]; omega
  go_enter Try.func6, Try.ntmps6
  go_wp2_with fail
  refine (szIntSS v m 1048576 _ h (by omega) (by omega)).mono ?_
  rintro e w' ⟨⟨r0, rfl, hr0a, hr0b, HR0⟩, rfl⟩
  by_cases hr0 : r0 < 0
  · go_wp2
    go_ret
    exact ⟨rfl, Below.refl _ _⟩
  have hs0 : m.length + total m ≤ 1048576 := by have := HR0.out (by omega); omega
  go_wp2_with fail
  refine (toIntSS v m _ h hs0).mono ?_
  rintro e wa0 ⟨va0, rfl, oa0, hba0⟩
  have b1 := hba0
  have z1 := hba0.size
  replace oa0 := oa0.toH
  go_wp2_with fail
  refine (toIntSH _ p _ (k.keep b1) hs1).mono ?_
  rintro e wa1 ⟨va1, rfl, oa1, hba1⟩
  have b2 := b1.trans (hba1.mono b1.size)
  have z2 := hba1.size
  replace oa0 := oa0.keep hba1
  replace oa1 := oa1.toH
  go_wp2_with fail
  refine (sIsPath va0 va1 m p _ oa0.mat oa1.ints).mono ?_
  rintro e wS ⟨rfl, hbS⟩
  have b3 := b2.trans (hbS.mono b2.size)
  have z3 := hbS.size
  replace oa0 := oa0.keep hbS
  replace oa1 := oa1.keep hbS
  clear oa0
  clear oa1
  go_wp2_with fail
  refine (toIntSS v m _ (h.keep b3) hs0).mono ?_
  rintro e wx0 ⟨vx0, rfl, ox0, hbx0⟩
  have b4 := b3.trans (hbx0.mono b3.size)
  have z4 := hbx0.size
  replace ox0 := ox0.toH
  go_wp2_with fail
  refine (toIntSH _ p _ (k.keep b4) hs1).mono ?_
  rintro e wx1 ⟨vx1, rfl, ox1, hbx1⟩
  have b5 := b4.trans (hbx1.mono b4.size)
  have z5 := hbx1.size
  replace ox0 := ox0.keep hbx1
  replace ox1 := ox1.toH
  go_wp2_with fail
  refine (iIsPath vx0 vx1 m p _ ox0.mat ox1.ints).mono ?_
  rintro e wG ⟨rfl, hbG⟩
  have b6 := b5.trans (hbG.mono b5.size)
  have z6 := hbG.size
  replace ox0 := ox0.keep hbG
  replace ox1 := ox1.keep hbG
  go_wp2_with fail
  refine (toIntSS v m _ (h.keep b6) hs0).mono ?_
  rintro e wy0 ⟨vy0, rfl, oy0, hby0⟩
  have b7 := b6.trans (hby0.mono b6.size)
  have z7 := hby0.size
  replace ox0 := ox0.keep hby0
  replace ox1 := ox1.keep hby0
  replace oy0 := oy0.toH
  go_wp2_with fail
  refine (eqIntSS _ _ _ _ _ ox0.mat oy0.mat).mono ?_
  rintro e wz0 ⟨rfl, hdz0⟩
  clear oy0
  have b8 := b7.trans (hdz0.below w.heap.size)
  have z8 := (hdz0.below 0).size
  replace ox0 := ox0.keep (hdz0.below _)
  replace ox1 := ox1.keep (hdz0.below _)
  rw [same_refl]
  clear ox0
  go_wp2_with fail
  refine (toIntSH _ p _ (k.keep b8) hs1).mono ?_
  rintro e wy1 ⟨vy1, rfl, oy1, hby1⟩
  have b9 := b8.trans (hby1.mono b8.size)
  have z9 := hby1.size
  replace ox1 := ox1.keep hby1
  replace oy1 := oy1.toH
  go_wp2_with fail
  refine (eqIntS _ _ _ _ _ ox1.ints oy1.ints).mono ?_
  rintro e wz1 ⟨rfl, hdz1⟩
  clear oy1
  have b10 := b9.trans (hdz1.below w.heap.size)
  have z10 := (hdz1.below 0).size
  replace ox1 := ox1.keep (hdz1.below _)
  rw [same_refl]
  clear ox1
  go_wp2
  go_ret
  exact ⟨rfl, b10⟩
theorem fnExactIsPath_lifted (os : Os) (started : os.Started) (H : Type) (enc : TypeId × Value → H) :
    ReturnsInHanded {} Try.checked os 6 .any (Rows.fnExactIsPathSpec.pre6 enc Try.prog Try.f6 Rows.fnExactIsPathRow.domain false) (Rows.fnExactIsPathSpec.post enc Try.prog Try.f6 false true false false) := by
  refine lifted_law started (by kernel_rfl) Try.func6
    (ChangeSpec.witness6 (enc := enc) (C := Try.checked) false ⟨#[], #[.slice none 0 0, .slice none 0 0], []⟩ 8 (by kernel_rfl) (by kernel_rfl) (by kernel_rfl) (by kernel_rfl))
    rfl (by kernel_rfl) (by kernel_rfl) ?_ ?_
  · intro ds hl
    match ds, hl with
    | [d0, d1], _ => rfl
  · intro W base args ds p hval hA
    rw [Try.params6] at hval hA
    obtain ⟨v0, vs0, d0, ds0, p0, q0, hargs, rfl, rfl, h0, r0⟩ := trodAll_cons hA
    obtain ⟨v1, vs1, d1, ds1, p1, q1, rfl, rfl, rfl, h1, r1⟩ := trodAll_cons r0
    obtain ⟨rfl, rfl, rfl⟩ := trodAll_nil r1
    obtain rfl : args = #[v0, v1] := by cases args; simp_all
    obtain ⟨a0, n0, c0, rfl⟩ := okWide_slice Try.underlying22 (hval 0 22 v0 rfl rfl)
    obtain ⟨m0, hm0⟩ := mat_of_trod Try.underlying22 Try.underlying28 Try.underlying3 (by kernel_rfl) (by kernel_rfl) rfl h0
    obtain ⟨a1, n1, c1, rfl⟩ := okWide_slice Try.underlying28 (hval 1 28 v1 rfl rfl)
    obtain ⟨m1, hm1⟩ : ∃ l, Ints W (.slice a1 n1 c1) l := by obtain ⟨fu, hf⟩ := h1; exact ints_of_trod Try.underlying28 Try.underlying3 (by kernel_rfl) rfl hf
    exact lawIsPath W _ m0 hm0 _ m1 hm1

theorem fnExactIsPath_holds : Rows.FnExactIsPathSaid :=
  OpenClaim.holds_of_wide 6 Try.f6 rfl rfl rfl rfl rfl rfl rfl ⟨rfl, rfl, rfl, rfl, rfl⟩ rfl rfl rfl rfl rfl (by kernel_rfl) Try.func6 (by kernel_rfl)
    (of_decide_eq_true (by kernel_rfl)) (by unfold Func.isWrapper; first | (rw [if_pos (by decide +kernel)]; kernel_rfl) | (rw [if_neg (by decide +kernel)]; exact ⟨rfl, rfl⟩))
    (fun os started H enc _ => fnExactIsPath_lifted os started H enc)

end Go.Proofs.Ytmkhdhoppmegdaa
