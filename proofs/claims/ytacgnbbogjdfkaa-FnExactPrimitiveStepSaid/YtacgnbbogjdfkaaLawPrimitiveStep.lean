/- FnExactPrimitiveStep returns true for every input and leaves its arguments as they were. No conditions. -/
import Derived.Test.YtacgnbbogjdfkaaPrimI
import Derived.Test.YtacgnbbogjdfkaaFrame
namespace Go.Proofs.Ytacgnbbogjdfkaa
open Go.RowKit Go.Deep Go.ChangeShapes Go.WideShapes Go.ChangeAt

set_option maxRecDepth 10000 in
set_option maxHeartbeats 400000 in
theorem lawPrimitiveStep (w : World) (v : Value) (m : List (List Int)) (h : Mat w v m) :
    Calls Try.prog 7 #[v] w fun e w' => e = .returned (.bool true) ∧ Below w.heap.size w w' := by
  go_enter Try.func7, Try.ntmps7
  go_wp2_with fail
  refine (szIntSS v m 1048576 w h (by omega) (by omega)).mono ?_
  rintro e w' ⟨⟨r, rfl, hr1, hr2, HR⟩, rfl⟩
  by_cases hr : r < 0
  · go_wp2
    go_ret
    exact ⟨rfl, Below.refl _ _⟩
  have hs : m.length + total m ≤ 1048576 := by have := HR.out (by omega); omega
  go_wp2_with fail
  refine (toIntSS v m _ h hs).mono ?_
  rintro e w1 ⟨v1, rfl, ho1, hb1⟩
  go_wp2_with fail
  refine (sPrimitiveStep v1 m _ ho1.mat).mono ?_
  rintro e w1' ⟨rfl, hd1⟩
  have hb1' := hb1.trans (hd1.mono hb1.size)
  go_wp2_with fail
  refine (toIntSS v m _ (h.keep hb1') hs).mono ?_
  rintro e w2 ⟨v2, rfl, ho2, hb2⟩
  have hb2' := hb1'.trans (hb2.mono hb1'.size)
  go_wp2_with fail
  refine (iPrimitiveStep v2 m _ ho2.mat).mono ?_
  rintro e w2' ⟨rfl, hd2⟩
  have hb3 := hb2'.trans (hd2.mono hb2'.size)
  have ho3 := ho2.mat.keep (hd2)
  go_wp2_with fail
  refine (toIntSS v m _ (h.keep hb3) hs).mono ?_
  rintro e w3 ⟨v3, rfl, ho4, hb4⟩
  go_wp2_with fail
  refine (eqIntSS v2 v3 m m _ (ho3.keep hb4) ho4.mat).mono ?_
  rintro e w4 ⟨rfl, hd⟩
  rw [same_refl]
  go_wp2
  go_ret
  exact ⟨rfl, (hb3.trans (hb4.mono hb3.size)).trans (hd.below _)⟩
theorem fnExactPrimitiveStep_lifted (os : Os) (started : os.Started) (H : Type) (enc : TypeId × Value → H) :
    ReturnsInHanded {} Try.checked os 7 .any (Rows.fnExactPrimitiveStepSpec.pre6 enc Try.prog Try.f7 Rows.fnExactPrimitiveStepRow.domain false) (Rows.fnExactPrimitiveStepSpec.post enc Try.prog Try.f7 false true false false) := by
  refine lifted_law started (by kernel_rfl) Try.func7
    (ChangeSpec.witness6 (enc := enc) (C := Try.checked) false ⟨#[], #[.slice none 0 0], []⟩ 8 (by kernel_rfl) (by kernel_rfl) (by kernel_rfl) (by kernel_rfl))
    rfl (by kernel_rfl) (by kernel_rfl) ?_ ?_
  · intro ds hl
    match ds, hl with
    | [d0], _ => rfl
  · intro W base args ds p hval hA
    rw [Try.params7] at hval hA
    obtain ⟨v0, vs0, d0, ds0, p0, q0, hargs, rfl, rfl, h0, r0⟩ := trodAll_cons hA
    obtain ⟨rfl, rfl, rfl⟩ := trodAll_nil r0
    obtain rfl : args = #[v0] := by cases args; simp_all
    obtain ⟨a0, n0, c0, rfl⟩ := okWide_slice Try.underlying22 (hval 0 22 v0 rfl rfl)
    obtain ⟨m0, hm0⟩ := mat_of_trod Try.underlying22 Try.underlying33 Try.underlying3 (by kernel_rfl) (by kernel_rfl) rfl h0
    exact lawPrimitiveStep W _ m0 hm0

theorem fnExactPrimitiveStep_holds : Rows.FnExactPrimitiveStepSaid :=
  OpenClaim.holds_of_wide 7 Try.f7 rfl rfl rfl rfl rfl rfl rfl ⟨rfl, rfl, rfl, rfl, rfl⟩ rfl rfl rfl rfl rfl (by kernel_rfl) Try.func7 (by kernel_rfl)
    (of_decide_eq_true (by kernel_rfl)) (by unfold Func.isWrapper; first | (rw [if_pos (by decide +kernel)]; kernel_rfl) | (rw [if_neg (by decide +kernel)]; exact ⟨rfl, rfl⟩))
    (fun os started H enc _ => fnExactPrimitiveStep_lifted os started H enc)

end Go.Proofs.Ytacgnbbogjdfkaa
