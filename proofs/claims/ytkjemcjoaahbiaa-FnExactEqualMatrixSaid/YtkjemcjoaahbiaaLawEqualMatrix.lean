/- FnExactEqualMatrix returns true for every input and leaves its arguments as they were. No conditions. -/
import Derived.Test.YtkjemcjoaahbiaaMatB
import Derived.Test.YtkjemcjoaahbiaaFrame
namespace Go.Proofs.Ytkjemcjoaahbiaa
open Go.RowKit Go.Deep Go.ChangeShapes Go.WideShapes Go.ChangeAt

set_option maxRecDepth 10000 in
set_option maxHeartbeats 400000 in
theorem lawEqualMatrix (w : World) (v : Value) (m : List (List Int)) (h : Mat w v m) (u : Value) (l : List (List Int)) (k : Mat w u l) :
    Calls Try.prog 10 #[v, u] w fun e w' => e = .returned (.bool true) ∧ Below w.heap.size w w' := by
  go_enter Try.func10, Try.ntmps10
  go_wp2_with fail
  refine (szIntSS v m 1048576 w h (by omega) (by omega)).mono ?_
  rintro e w' ⟨⟨r, rfl, hr1, hr2, HR⟩, rfl⟩
  by_cases hr : r < 0
  · go_wp2
    go_ret
    exact ⟨rfl, Below.refl _ _⟩
  have hs : m.length + total m ≤ 1048576 := by have := HR.out (by omega); omega
  go_wp2_with fail
  refine (szIntSS u l r w k (by omega) (by omega)).mono ?_
  rintro e w' ⟨⟨r', rfl, hr1', hr2', HR'⟩, rfl⟩
  by_cases hr' : r' < 0
  · go_wp2
    go_ret
    exact ⟨rfl, Below.refl _ _⟩
  have hs' : l.length + total l ≤ 1048576 := by have := HR'.out (by omega); omega
  go_wp2_with fail
  refine (toIntSS v m _ h hs).mono ?_
  rintro e w1 ⟨v1, rfl, ho1, hb1⟩
  go_wp2_with fail
  refine (toIntSS u l _ (k.keep hb1) hs').mono ?_
  rintro e w2 ⟨v2, rfl, ho2, hb2⟩
  have b2 := hb1.trans (hb2.mono hb1.size)
  go_wp2_with fail
  refine (sEqualMatrix v1 v2 m l _ (ho1.mat.keep hb2) ho2.mat).mono ?_
  rintro e w3 ⟨rfl, hd3⟩
  have b3 := b2.trans (hd3.below _)
  go_wp2_with fail
  refine (toIntSS v m _ (h.keep b3) hs).mono ?_
  rintro e w4 ⟨v4, rfl, ho4, hb4⟩
  have b4 := b3.trans (hb4.mono b3.size)
  go_wp2_with fail
  refine (toIntSS u l _ (k.keep b4) hs').mono ?_
  rintro e w5 ⟨v5, rfl, ho5, hb5⟩
  have b5 := b4.trans (hb5.mono b4.size)
  go_wp2_with fail
  refine (iEqualMatrix v4 v5 m l _ (ho4.mat.keep hb5) ho5.mat).mono ?_
  rintro e w6 ⟨rfl, hd6⟩
  have b6 := b5.trans (hd6.below _)
  go_wp2_with fail
  refine (toIntSS v m _ (h.keep b6) hs).mono ?_
  rintro e w7 ⟨v7, rfl, ho7, hb7⟩
  have b7 := b6.trans (hb7.mono b6.size)
  go_wp2_with fail
  refine (eqIntSS v4 v7 m m _ (((ho4.mat.keep hb5).keep (hd6.below _)).keep hb7) ho7.mat).mono ?_
  rintro e w8 ⟨rfl, hd8⟩
  have b8 := b7.trans (hd8.below _)
  rw [same_refl]
  go_wp2_with fail
  refine (toIntSS u l _ (k.keep b8) hs').mono ?_
  rintro e w9 ⟨v9, rfl, ho9, hb9⟩
  have b9 := b8.trans (hb9.mono b8.size)
  go_wp2_with fail
  refine (eqIntSS v5 v9 l l _ ((((ho5.mat.keep (hd6.below _)).keep hb7).keep (hd8.below _)).keep hb9) ho9.mat).mono ?_
  rintro e w10 ⟨rfl, hd10⟩
  rw [same_refl]
  go_wp2
  go_ret
  exact ⟨rfl, b9.trans (hd10.below _)⟩
theorem fnExactEqualMatrix_lifted (os : Os) (started : os.Started) (H : Type) (enc : TypeId × Value → H) :
    ReturnsInHanded {} Try.checked os 10 .any (Rows.fnExactEqualMatrixSpec.pre6 enc Try.prog Try.f10 Rows.fnExactEqualMatrixRow.domain false) (Rows.fnExactEqualMatrixSpec.post enc Try.prog Try.f10 false true false false) := by
  refine lifted_law started (by kernel_rfl) Try.func10
    (ChangeSpec.witness6 (enc := enc) (C := Try.checked) false ⟨#[], #[.slice none 0 0, .slice none 0 0], []⟩ 8 (by kernel_rfl) (by kernel_rfl) (by kernel_rfl) (by kernel_rfl))
    rfl (by kernel_rfl) (by kernel_rfl) ?_ ?_
  · intro ds hl
    match ds, hl with
    | [d0, d1], _ => rfl
  · intro W base args ds p hval hA
    rw [Try.params10] at hval hA
    obtain ⟨v0, vs0, d0, ds0, p0, q0, hargs, rfl, rfl, h0, r0⟩ := trodAll_cons hA
    obtain ⟨v1, vs1, d1, ds1, p1, q1, rfl, rfl, rfl, h1, r1⟩ := trodAll_cons r0
    obtain ⟨rfl, rfl, rfl⟩ := trodAll_nil r1
    obtain rfl : args = #[v0, v1] := by cases args; simp_all
    obtain ⟨a0, n0, c0, rfl⟩ := okWide_slice Try.underlying28 (hval 0 28 v0 rfl rfl)
    obtain ⟨m0, hm0⟩ := mat_of_trod Try.underlying28 Try.underlying54 Try.underlying3 (by kernel_rfl) (by kernel_rfl) rfl h0
    obtain ⟨a1, n1, c1, rfl⟩ := okWide_slice Try.underlying28 (hval 1 28 v1 rfl rfl)
    obtain ⟨m1, hm1⟩ := mat_of_trod Try.underlying28 Try.underlying54 Try.underlying3 (by kernel_rfl) (by kernel_rfl) rfl h1
    exact lawEqualMatrix W _ m0 hm0 _ m1 hm1

theorem fnExactEqualMatrix_holds : Rows.FnExactEqualMatrixSaid :=
  OpenClaim.holds_of_wide 10 Try.f10 rfl rfl rfl rfl rfl rfl rfl ⟨rfl, rfl, rfl, rfl, rfl⟩ rfl rfl rfl rfl rfl (by kernel_rfl) Try.func10 (by kernel_rfl)
    (of_decide_eq_true (by kernel_rfl)) (by unfold Func.isWrapper; first | (rw [if_pos (by decide +kernel)]; kernel_rfl) | (rw [if_neg (by decide +kernel)]; exact ⟨rfl, rfl⟩))
    (fun os started H enc _ => fnExactEqualMatrix_lifted os started H enc)

end Go.Proofs.Ytkjemcjoaahbiaa
