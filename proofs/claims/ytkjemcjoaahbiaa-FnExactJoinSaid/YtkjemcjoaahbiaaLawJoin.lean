/- FnExactJoin returns true for every input and leaves its arguments as they were. No conditions. -/
import Derived.Test.YtkjemcjoaahbiaaJoin
import Derived.Test.YtkjemcjoaahbiaaFrameS
namespace Go.Proofs.Ytkjemcjoaahbiaa
open Go.RowKit Go.Deep Go.ChangeShapes Go.WideShapes Go.ChangeAt

set_option maxRecDepth 10000 in
set_option maxHeartbeats 400000 in
theorem lawJoin (w : World) (v : Value) (l : List ByteArray) (h : StrsZ w v l) (b : ByteArray) (_ : b.size ≤ maxLen) :
    Calls Try.prog 13 #[v, .string b] w fun e w' => e = .returned (.bool true) ∧ Below w.heap.size w w' := by
  by_cases hbb : 1048576 < (b.size : Int)
  · go_enter Try.func13, Try.ntmps13
    go_wp2
    go_ret
    exact ⟨rfl, Below.refl _ _⟩
  have hb : b.size ≤ 1048576 := by omega
  go_enter Try.func13, Try.ntmps13
  go_wp2_with fail
  refine (szStringS v l 1048576 _ h.1 h.2 (by omega) (by omega)).mono ?_
  rintro e w' ⟨⟨r, rfl, hr1, hr2, HR⟩, rfl⟩
  by_cases hr : r < 0
  · go_wp2
    go_ret
    exact ⟨rfl, Below.refl _ _⟩
  have hs : l.length + totalS l ≤ 1048576 := by have := HR.out (by omega); omega
  go_wp2_with fail
  refine (toStringS v l _ h.1 (by omega)).mono ?_
  rintro e w1 ⟨v1, rfl, ho1, b1⟩
  go_wp2_with fail
  refine (sJoin v1 l b _ ho1.strs hs hb).mono ?_
  rintro e w2 ⟨rfl, hb2⟩
  have b2 := b1.trans (hb2.mono b1.size)
  clear ho1
  go_wp2_with fail
  refine (toStringS v l _ (h.1.keep b2) (by omega)).mono ?_
  rintro e w3 ⟨v3, rfl, ho3, hb3⟩
  have b3 := b2.trans (hb3.mono b2.size)
  go_wp2_with fail
  refine (iJoin v3 l b _ ho3.strs hs hb).mono ?_
  rintro e w4 ⟨rfl, hb4⟩
  have b4 := b3.trans (hb4.mono b3.size)
  have hs3 := ho3.strs.keep hb4
  clear ho3
  go_wp2_with fail
  refine (toStringS v l _ (h.1.keep b4) (by omega)).mono ?_
  rintro e w5 ⟨v5, rfl, ho5, hb5⟩
  have b5 := b4.trans (hb5.mono b4.size)
  go_wp2_with fail
  refine (eqStringS _ _ _ _ _ (hs3.keep hb5) ho5.strs).mono ?_
  rintro e w6 ⟨rfl, hd6⟩
  rw [same_refl]
  go_wp2
  go_ret
  exact ⟨rfl, b5.trans (hd6.below _)⟩
theorem fnExactJoin_lifted (os : Os) (started : os.Started) (H : Type) (enc : TypeId × Value → H) :
    ReturnsInHanded {} Try.checked os 13 .any (Rows.fnExactJoinSpec.pre6 enc Try.prog Try.f13 Rows.fnExactJoinRow.domain false) (Rows.fnExactJoinSpec.post enc Try.prog Try.f13 false true false false) := by
  refine lifted_law started (by kernel_rfl) Try.func13
    (ChangeSpec.witness6 (enc := enc) (C := Try.checked) false ⟨#[], #[.slice none 0 0, .string ByteArray.empty], []⟩ 8 (by kernel_rfl) (by kernel_rfl) (by kernel_rfl) (by kernel_rfl))
    rfl (by kernel_rfl) (by kernel_rfl) ?_ ?_
  · intro ds hl
    match ds, hl with
    | [d0, d1], _ => rfl
  · intro W base args ds p hval hA
    rw [Try.params13] at hval hA
    obtain ⟨v0, vs0, d0, ds0, p0, q0, hargs, rfl, rfl, h0, r0⟩ := trodAll_cons hA
    obtain ⟨v1, vs1, d1, ds1, p1, q1, rfl, rfl, rfl, h1, r1⟩ := trodAll_cons r0
    obtain ⟨rfl, rfl, rfl⟩ := trodAll_nil r1
    obtain rfl : args = #[v0, v1] := by cases args; simp_all
    obtain ⟨a0, n0, c0, rfl⟩ := okWide_slice Try.underlying33 (hval 0 33 v0 rfl rfl)
    obtain ⟨m0, hm0⟩ : ∃ l, StrsZ W (.slice a0 n0 c0) l := by obtain ⟨fu, hf⟩ := h0; exact strs_of_trod Try.underlying33 Try.underlying9 (by kernel_rfl) rfl hf
    obtain ⟨s1, rfl, rfl, rfl, ws1⟩ := Go.ChangeMaps.open_string Try.underlying9 (hval 1 9 v1 rfl rfl) h1
    exact lawJoin W _ m0 hm0 s1 ws1

theorem fnExactJoin_holds : Rows.FnExactJoinSaid :=
  OpenClaim.holds_of_wide 13 Try.f13 rfl rfl rfl rfl rfl rfl rfl ⟨rfl, rfl, rfl, rfl, rfl⟩ rfl rfl rfl rfl rfl (by kernel_rfl) Try.func13 (by kernel_rfl)
    (of_decide_eq_true (by kernel_rfl)) (by unfold Func.isWrapper; first | (rw [if_pos (by decide +kernel)]; kernel_rfl) | (rw [if_neg (by decide +kernel)]; exact ⟨rfl, rfl⟩))
    (fun os started H enc _ => fnExactJoin_lifted os started H enc)

end Go.Proofs.Ytkjemcjoaahbiaa
