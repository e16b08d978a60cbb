/- FnExactMatrixText returns true for every input and leaves its arguments as they were. No conditions. -/
import Derived.Test.YtkimijmiaidlgaaDoorMatT
import Derived.Test.YtkimijmiaidlgaaDoorFrameD
namespace Go.Proofs.YtkimijmiaidlgaaDoor
open Go.RowKit Go.Deep Go.ChangeShapes Go.WideShapes Go.ChangeAt

set_option maxRecDepth 10000 in
set_option maxHeartbeats 400000 in
theorem lawMatrixText (w : World) (_ : w.ShapedOpen Tryd.prog) (hl : laidMetH Tryd.prog Rows.fnExactMatrixTextRow.laid w) (v : Value) (m : List (List Int)) (h : Mat w v m) :
    Calls Tryd.prog 4 #[v] w fun e w' => e = .returned (.bool true) ∧ Below w.heap.size w w' := by
  rw [MakeChecks.laidMetH_plain _ _ _ (by kernel_rfl)] at hl
  have ht : Tb w := tb_of_laid hl
  clear hl
  go_enter Tryd.func4, Tryd.ntmps4
  go_wp2_with fail
  refine (szIntSS v m 1048576 w h (by omega) (by omega)).mono ?_
  rintro e w' ⟨⟨r, rfl, hr1, hr2, HR⟩, rfl⟩
  by_cases hr : r < 0
  · go_wp2
    go_ret
    exact ⟨rfl, Below.refl _ _⟩
  have hs : m.length + total m ≤ 1048576 := by have := HR.out (by omega); omega
  go_wp2_with fail
  refine (toIntSS v m _ h hs).mono ?_
  rintro e w1 ⟨v1, rfl, ho1, hb1⟩
  go_wp2_with fail
  refine (sMatrixText v1 m _ ho1.mat).mono ?_
  rintro e w1' ⟨rfl, hd1⟩
  have hb1' := hb1.trans (hd1.mono hb1.size)
  go_wp2_with fail
  refine (toIntSS v m _ (h.keep hb1') hs).mono ?_
  rintro e w2 ⟨v2, rfl, ho2, hb2⟩
  have hb2' := hb1'.trans (hb2.mono hb1'.size)
  go_wp2_with fail
  refine (iMatrixText v2 m _ ho2.mat (ht.keep hb2')).mono ?_
  rintro e w2' ⟨rfl, hd2⟩
  have hb3 := hb2'.trans (hd2.mono hb2'.size)
  have ho3 := ho2.mat.keep hd2
  have hne := bne_self_toList (matT m)
  go_wp2_with fail
  refine (toIntSS v m _ (h.keep hb3) hs).mono ?_
  rintro e w3 ⟨v3, rfl, ho4, hb4⟩
  go_wp2_with fail
  refine (eqIntSS v2 v3 m m _ (ho3.keep hb4) ho4.mat).mono ?_
  rintro e w4 ⟨rfl, hd⟩
  rw [same_refl]
  go_wp2
  go_ret
  exact ⟨rfl, (hb3.trans (hb4.mono hb3.size)).trans (hd.below _)⟩
set_option maxRecDepth 100000 in
theorem fnExactMatrixText_lifted (os : Os) (started : os.Started) (H : Type) (enc : TypeId × Value → H) :
    ReturnsInHanded {} Tryd.checked os 4 .any (fun w args => (Rows.fnExactMatrixTextSpec.pre enc Tryd.prog Tryd.f4 [] false w args ∧ laidMetH Tryd.prog Rows.fnExactMatrixTextRow.laid w) ∧ sizedMet enc Tryd.prog Tryd.f4 (OpenSpec.ofChange Rows.fnExactMatrixTextSpec) false w args) (Rows.fnExactMatrixTextSpec.post enc Tryd.prog Tryd.f4 false true false false) := by
  refine lifted_law_door (lst := Rows.fnExactMatrixTextRow.laid) started (by kernel_rfl) Tryd.func4
    (ChangeSpec.witness_shaped (enc := enc) (C := Tryd.checked) (os := os) (X := fun w _ => laidMetH Tryd.prog Rows.fnExactMatrixTextRow.laid w) false (World.laidAll Tryd.prog os Rows.fnExactMatrixTextRow.laid) #[.slice none 0 0] 8 (World.laidAll_os _ _ _)
      (World.shaped_of_ZipB (by kernel_rfl) (by kernel_rfl)) (by kernel_rfl) (by kernel_rfl) (by kernel_rfl)
      (by rw [MakeChecks.laidMetH_plain _ _ _ (by kernel_rfl)]; exact laidMet_laidAll _ (by kernel_rfl) (by kernel_rfl)))
    rfl (by kernel_rfl) (by kernel_rfl) ?_ ?_
  · intro ds hl
    match ds, hl with
    | [d0], _ => rfl
  · intro W base args ds p hshp hlaid hval hA
    rw [Tryd.params4] at hval hA
    obtain ⟨v0, vs0, d0, ds0, p0, q0, hargs, rfl, rfl, h0, r0⟩ := trodAll_cons hA
    obtain ⟨rfl, rfl, rfl⟩ := trodAll_nil r0
    obtain rfl : args = #[v0] := by cases args; simp_all
    obtain ⟨a0, n0, c0, rfl⟩ := okWide_slice Tryd.underlying31 (hval 0 31 v0 rfl rfl)
    obtain ⟨m0, hm0⟩ := mat_of_trod Tryd.underlying31 Tryd.underlying44 Tryd.underlying3 (by kernel_rfl) (by kernel_rfl) rfl h0
    exact lawMatrixText W hshp hlaid _ m0 hm0

set_option maxRecDepth 100000 in
theorem fnExactMatrixText_holds : Rows.FnExactMatrixTextSaid :=
  OpenClaim.holds_of_wide 4 Tryd.f4 rfl rfl rfl rfl rfl rfl rfl ⟨rfl, rfl, rfl, rfl, rfl⟩ rfl rfl rfl rfl rfl (by kernel_rfl) Tryd.func4 (by kernel_rfl)
    (of_decide_eq_true (by kernel_rfl)) (by unfold Func.isWrapper; first | (rw [if_pos (by decide +kernel)]; kernel_rfl) | (rw [if_neg (by decide +kernel)]; exact ⟨rfl, rfl⟩))
    (fun os started H enc _ => fnExactMatrixText_lifted os started H enc)
set_option maxRecDepth 100000 in
theorem fnExactMatrixTextCard_holds : Rows.FnExactMatrixTextCardSaid :=
  Claim7.holds_tied_plain_at .later [] [.data, .data, .data] true (true, "bbdeb9126d353df892bb0c1acc94f9857e535e63f4979c7d66ffabc119b33d30") false fnExactMatrixText_holds (fun _ h => by cases h) (by kernel_rfl) (fun _ h => by cases h) fnExactMatrixText_row_tie rfl ⟨rfl, rfl⟩ (by kernel_rfl) rfl
    (fun f fn hf hfn => by
      obtain rfl : f = 4 := Option.some.inj ((show Tryd.prog.funcNamed "loop.example/g03103/laws.FnExactMatrixText" = some 4 by kernel_rfl).symm.trans hf) |>.symm
      obtain rfl : fn = Tryd.f4 := (Option.some.inj (Tryd.func4.symm.trans hfn)).symm
      exact ⟨by kernel_rfl, fun j t ht => by
        have hall : (Tryd.f4.params.toList.all fun u => !Tryd.prog.wantsStandIn u) = true := by kernel_rfl
        have hm : t ∈ Tryd.f4.params.toList := Array.mem_toList_iff.2 (Array.mem_of_getElem? ht)
        exact (show Tryd.prog.wantsStandIn t = false by simpa using List.all_eq_true.1 hall t hm)⟩)
    (by kernel_rfl)

end Go.Proofs.YtkimijmiaidlgaaDoor
