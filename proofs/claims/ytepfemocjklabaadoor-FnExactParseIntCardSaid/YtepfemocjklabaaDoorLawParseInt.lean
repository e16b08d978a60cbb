/- FnExactParseInt returns true for every input and leaves its arguments as they were. No conditions. -/
import Derived.Test.YtepfemocjklabaaDoorReadS
import Derived.Test.YtepfemocjklabaaDoorFrameD
namespace Go.Proofs.YtepfemocjklabaaDoor
open Go.RowKit Go.Deep Go.ChangeShapes Go.WideShapes Go.ChangeAt

set_option maxRecDepth 10000 in
set_option maxHeartbeats 400000 in
theorem lawParseInt (w : World) (_ : w.ShapedOpen Tryd.prog) (hl : laidMetH Tryd.prog Rows.fnExactParseIntRow.laid w) (s : ByteArray) (_ : s.size ≤ maxLen) :
    Calls Tryd.prog 4 #[.string s] w fun e w' => e = .returned (.bool true) ∧ Below w.heap.size w w' := by
  by_cases hbs : 1048576 < (s.size : Int)
  · go_enter Tryd.func4, Tryd.ntmps4
    go_wp2
    go_ret
    exact ⟨rfl, Below.refl _ _⟩
  have hs : s.size ≤ 1048576 := by omega
  rw [MakeChecks.laidMetH_plain _ _ _ (by kernel_rfl)] at hl
  have ht : Tb w := tb_of_laid hl
  have hev : Ev w := ev_of_laid hl
  clear hl
  go_enter Tryd.func4, Tryd.ntmps4
  go_wp2_with fail
  refine (sParseInt s _ hs).mono ?_
  rintro e w1 ⟨n, b, rfl, HR1, b1⟩
  go_wp2_with fail
  refine (iParseInt s _ hs (ht.keep b1) (hev.keep b1)).mono ?_
  rintro e w2 ⟨n2, b2, rfl, HR2, bb⟩
  have b3 := b1.trans (bb.mono b1.size)
  obtain ⟨rfl, rfl⟩ := Rd.eq (by omega) (by omega) HR1.out HR2.out
  have q1 : (n == n) = true := beq_self_eq_true _
  have q2 : (n != n) = false := by simp
  cases b
  · go_wp2
    go_ret
    exact ⟨rfl, b3⟩
  · go_wp2
    go_ret
    exact ⟨rfl, b3⟩
set_option maxRecDepth 100000 in
theorem fnExactParseInt_lifted (os : Os) (started : os.Started) (H : Type) (enc : TypeId × Value → H) :
    ReturnsInHanded {} Tryd.checked os 4 .any (fun w args => (Rows.fnExactParseIntSpec.pre enc Tryd.prog Tryd.f4 [] false w args ∧ laidMetH Tryd.prog Rows.fnExactParseIntRow.laid w) ∧ sizedMet enc Tryd.prog Tryd.f4 (OpenSpec.ofChange Rows.fnExactParseIntSpec) false w args) (Rows.fnExactParseIntSpec.post enc Tryd.prog Tryd.f4 false true false false) := by
  refine lifted_law_door (lst := Rows.fnExactParseIntRow.laid) started (by kernel_rfl) Tryd.func4
    (ChangeSpec.witness_shaped (enc := enc) (C := Tryd.checked) (os := os) (X := fun w _ => laidMetH Tryd.prog Rows.fnExactParseIntRow.laid w) false (World.laidAll Tryd.prog os Rows.fnExactParseIntRow.laid) #[.string ByteArray.empty] 8 (World.laidAll_os _ _ _)
      (World.shaped_of_ZipB (by kernel_rfl) (by kernel_rfl)) (by kernel_rfl) (by kernel_rfl) (by kernel_rfl)
      (by rw [MakeChecks.laidMetH_plain _ _ _ (by kernel_rfl)]; exact laidMet_laidAll _ (by kernel_rfl) (by kernel_rfl)))
    rfl (by kernel_rfl) (by kernel_rfl) ?_ ?_
  · intro ds hl
    match ds, hl with
    | [d0], _ => rfl
  · intro W base args ds p hshp hlaid hval hA
    rw [Tryd.params4] at hval hA
    obtain ⟨v0, vs0, d0, ds0, p0, q0, hargs, rfl, rfl, h0, r0⟩ := trodAll_cons hA
    obtain ⟨rfl, rfl, rfl⟩ := trodAll_nil r0
    obtain rfl : args = #[v0] := by cases args; simp_all
    obtain ⟨s0, rfl, rfl, rfl, ws0⟩ := Go.ChangeMaps.open_string Tryd.underlying9 (hval 0 9 v0 rfl rfl) h0
    exact lawParseInt W hshp hlaid s0 ws0

set_option maxRecDepth 100000 in
theorem fnExactParseInt_holds : Rows.FnExactParseIntSaid :=
  OpenClaim.holds_of_wide 4 Tryd.f4 rfl rfl rfl rfl rfl rfl rfl ⟨rfl, rfl, rfl, rfl, rfl⟩ rfl rfl rfl rfl rfl (by kernel_rfl) Tryd.func4 (by kernel_rfl)
    (of_decide_eq_true (by kernel_rfl)) (by unfold Func.isWrapper; first | (rw [if_pos (by decide +kernel)]; kernel_rfl) | (rw [if_neg (by decide +kernel)]; exact ⟨rfl, rfl⟩))
    (fun os started H enc _ => fnExactParseInt_lifted os started H enc)
set_option maxRecDepth 100000 in
theorem fnExactParseIntCard_holds : Rows.FnExactParseIntCardSaid :=
  Claim7.holds_tied_plain_at .later [] [.data, .data, .data, .sentinel, .sentinel] true (true, "f6bf3e8e5798cca46134f15ac73bdecab0daa01849c7f8c14bf2d6c83528927b") true fnExactParseInt_holds (fun _ h => by cases h) (by kernel_rfl) (fun _ h => by cases h) fnExactParseInt_row_tie rfl ⟨rfl, rfl⟩ (by kernel_rfl) rfl
    (fun f fn hf hfn => by
      obtain rfl : f = 4 := Option.some.inj ((show Tryd.prog.funcNamed "loop.example/g03103/laws.FnExactParseInt" = some 4 by kernel_rfl).symm.trans hf) |>.symm
      obtain rfl : fn = Tryd.f4 := (Option.some.inj (Tryd.func4.symm.trans hfn)).symm
      exact ⟨by kernel_rfl, fun j t ht => by
        have hall : (Tryd.f4.params.toList.all fun u => !Tryd.prog.wantsStandIn u) = true := by kernel_rfl
        have hm : t ∈ Tryd.f4.params.toList := Array.mem_toList_iff.2 (Array.mem_of_getElem? ht)
        exact (show Tryd.prog.wantsStandIn t = false by simpa using List.all_eq_true.1 hall t hm)⟩)
    (by kernel_rfl)

end Go.Proofs.YtepfemocjklabaaDoor
