/- FnExactTurnWord returns true for every input and leaves its arguments as they were. No conditions. -/
import Derived.Test.YtkjemcjoaahbiaaWordB
import Derived.Test.YtkjemcjoaahbiaaFrame
namespace Go.Proofs.Ytkjemcjoaahbiaa
open Go.RowKit Go.Deep Go.ChangeShapes Go.WideShapes Go.ChangeAt

set_option maxRecDepth 10000 in
set_option maxHeartbeats 400000 in
theorem lawTurnWord (w : World) (s : ByteArray) (_ : s.size ≤ maxLen) (n : Int) (_ : (Lit.int .i64 n).wf = true) :
    Calls Try.prog 6 #[.string s, .int .i64 n] w fun e w' => e = .returned (.bool true) ∧ Below w.heap.size w w' := by
  by_cases hb : 1048576 < (s.size : Int)
  · go_enter Try.func6, Try.ntmps6
    go_wp2
    go_ret
    exact ⟨rfl, Below.refl _ _⟩
  have hs : s.size ≤ 1048576 := by omega
  go_enter Try.func6, Try.ntmps6
  go_wp2_with fail
  refine (sTurnWord s n _ hs).mono ?_
  rintro e w1 ⟨rfl, hd1⟩
  go_wp2_with fail
  refine (iTurnWord s n _ hs).mono ?_
  rintro e w2 ⟨rfl, hd2⟩
  go_wp2
  go_ret
  exact ⟨rfl, (hd1.trans hd2).below _⟩
theorem fnExactTurnWord_lifted (os : Os) (started : os.Started) (H : Type) (enc : TypeId × Value → H) :
    ReturnsInHanded {} Try.checked os 6 .any (Rows.fnExactTurnWordSpec.pre6 enc Try.prog Try.f6 Rows.fnExactTurnWordRow.domain false) (Rows.fnExactTurnWordSpec.post enc Try.prog Try.f6 false true false false) := by
  refine lifted_law started (by kernel_rfl) Try.func6
    (ChangeSpec.witness6 (enc := enc) (C := Try.checked) false ⟨#[], #[.string ByteArray.empty, .int .i64 0], []⟩ 8 (by kernel_rfl) (by kernel_rfl) (by kernel_rfl) (by kernel_rfl))
    rfl (by kernel_rfl) (by kernel_rfl) ?_ ?_
  · intro ds hl
    match ds, hl with
    | [d0, d1], _ => rfl
  · intro W base args ds p hval hA
    rw [Try.params6] at hval hA
    obtain ⟨v0, vs0, d0, ds0, p0, q0, hargs, rfl, rfl, h0, r0⟩ := trodAll_cons hA
    obtain ⟨v1, vs1, d1, ds1, p1, q1, rfl, rfl, rfl, h1, r1⟩ := trodAll_cons r0
    obtain ⟨rfl, rfl, rfl⟩ := trodAll_nil r1
    obtain rfl : args = #[v0, v1] := by cases args; simp_all
    obtain ⟨s0, rfl, rfl, rfl, ws0⟩ := Go.ChangeMaps.open_string Try.underlying9 (hval 0 9 v0 rfl rfl) h0
    obtain ⟨x1, rfl, rfl, rfl, wx1⟩ := open_int Try.underlying3 (hval 1 3 v1 rfl rfl) h1
    exact lawTurnWord W s0 ws0 x1 wx1

theorem fnExactTurnWord_holds : Rows.FnExactTurnWordSaid :=
  OpenClaim.holds_of_wide 6 Try.f6 rfl rfl rfl rfl rfl rfl rfl ⟨rfl, rfl, rfl, rfl, rfl⟩ rfl rfl rfl rfl rfl (by kernel_rfl) Try.func6 (by kernel_rfl)
    (of_decide_eq_true (by kernel_rfl)) (by unfold Func.isWrapper; first | (rw [if_pos (by decide +kernel)]; kernel_rfl) | (rw [if_neg (by decide +kernel)]; exact ⟨rfl, rfl⟩))
    (fun os started H enc _ => fnExactTurnWord_lifted os started H enc)

end Go.Proofs.Ytkjemcjoaahbiaa
