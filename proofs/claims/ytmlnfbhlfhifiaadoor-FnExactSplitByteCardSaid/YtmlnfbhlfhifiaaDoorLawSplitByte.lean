/- FnExactSplitByte returns true for every input and leaves its arguments as they were. No conditions. -/
import Derived.Test.YtmlnfbhlfhifiaaDoorSplit
import Derived.Test.YtmlnfbhlfhifiaaDoorMarkS
import Derived.Test.YtmlnfbhlfhifiaaDoorFrameD
namespace Go.Proofs.YtmlnfbhlfhifiaaDoor
open Go.RowKit Go.Deep Go.ChangeShapes Go.WideShapes Go.ChangeAt

set_option maxRecDepth 10000 in
set_option maxHeartbeats 800000 in
theorem lawSplitByte (w : World) (hsh : w.ShapedOpen Tryd.prog) (s : ByteArray) (_ : s.size ≤ maxLen) (x : Int) (wx : (Lit.int .u8 x).wf = true) :
    Calls Tryd.prog 3 #[.string s, .int .u8 x] w fun e w' => e = .returned (.bool true) ∧ Below w.heap.size w w' := by
  have hm : Ml w := Tryd.laysM146.s1_3 w hsh
  obtain ⟨b, rfl⟩ : ∃ b : UInt8, x = (b.toNat : Int) := byte_of wx
  by_cases hbs : 1048576 < (s.size : Int)
  · go_enter Tryd.func3, Tryd.ntmps3
    go_wp2
    go_ret
    exact ⟨rfl, Below.refl _ _⟩
  have hss : s.size ≤ 1048576 := by omega
  have hP := splL_small s b hss
  go_enter Tryd.func3, Tryd.ntmps3
  go_wp2_with fail
  refine (sSplitByte s b _ hss).mono ?_
  rintro e w1 ⟨v1, rfl, (ho1 : OwnS _ _ _ _ _), b1⟩
  replace ho1 := ho1.toH
  go_wp2_with fail
  refine (iSplitByte s b _ (hm.keep b1) hss).mono ?_
  rintro e w2 ⟨v2, rfl, (ho2 : OwnS _ _ _ _ _), hb2⟩
  replace ho2 := ho2.toH
  replace ho1 := ho1.keep hb2
  have b2 := belowN b1 hb2
  go_wp2_with fail
  refine (eqStringS _ _ _ _ _ ho2.strs ho1.strs).mono ?_
  rintro e w3 ⟨rfl, hd3⟩
  replace ho1 := ho1.keep (hd3.below _)
  replace ho2 := ho2.keep (hd3.below _)
  have b3 := b2.trans (hd3.below _)
  rw [same_refl]
  have z1 := b1.size
  have z2 := hb2.size
  have z3 := (hd3.below 0).size
  go_wp2_with fail
  refine (markStringS _ _ _ 1 _ ho2.1 (by omega) (by omega)).mono ?_
  rintro e w4 ⟨rfl, om, hg4⟩
  replace ho1 := ho1.grown2 hg4 (fun k hk => (ho2.1.lt k hk).1)
  have b4 := b3.trans (ho2.1.below hg4 z1 (by omega))
  have z4 := hg4.size
  clear ho2
  go_wp2_with fail
  refine (heldStringS _ _ 1 _ om.row (by omega) (by omega)).mono ?_
  rintro e w5 ⟨rfl, hb5⟩
  replace ho1 := ho1.keep hb5
  replace om := om.keep hb5
  have b5 := belowN b4 hb5
  go_wp2_with fail
  refine (iSplitByte s b _ (hm.keep b5) hss).mono ?_
  rintro e w6 ⟨v6, rfl, (ho6 : OwnS _ _ _ _ _), hb6⟩
  replace ho1 := ho1.keep hb6
  replace om := om.keep hb6
  have b6 := belowN b5 hb6
  go_wp2_with fail
  refine (eqStringS _ _ _ _ _ ho6.strs ho1.strs).mono ?_
  rintro e w7 ⟨rfl, hd7⟩
  replace om := om.keep (hd7.below _)
  have b7 := b6.trans (hd7.below _)
  rw [same_refl]
  clear ho1 ho6
  go_wp2_with fail
  refine (heldStringS _ _ 1 _ om.row (by omega) (by omega)).mono ?_
  rintro e w8 ⟨rfl, hb8⟩
  have b8 := belowN b7 hb8
  go_wp2
  go_ret
  exact ⟨rfl, b8⟩
set_option maxRecDepth 100000 in
theorem fnExactSplitByte_lifted (os : Os) (started : os.Started) (H : Type) (enc : TypeId × Value → H) :
    ReturnsInHanded {} Tryd.checked os 3 .any (fun w args => (Rows.fnExactSplitByteSpec.pre enc Tryd.prog Tryd.f3 [] false w args ∧ laidMetH Tryd.prog Rows.fnExactSplitByteRow.laid w) ∧ sizedMet enc Tryd.prog Tryd.f3 (OpenSpec.ofChange Rows.fnExactSplitByteSpec) false w args) (Rows.fnExactSplitByteSpec.post enc Tryd.prog Tryd.f3 false true false false) := by
  refine lifted_law_door (lst := Rows.fnExactSplitByteRow.laid) started (by kernel_rfl) Tryd.func3
    (ChangeSpec.witness_shaped (enc := enc) (C := Tryd.checked) (os := os) (X := fun w _ => laidMetH Tryd.prog Rows.fnExactSplitByteRow.laid w) false (World.laidAll Tryd.prog os Rows.fnExactSplitByteRow.laid) #[.string ByteArray.empty, .int .u8 0] 8 (World.laidAll_os _ _ _)
      (World.shaped_of_ZipB (by kernel_rfl) (by kernel_rfl)) (by kernel_rfl) (by kernel_rfl) (by kernel_rfl)
      (by rw [MakeChecks.laidMetH_plain _ _ _ (by kernel_rfl)]; exact laidMet_laidAll _ (by kernel_rfl) (by kernel_rfl)))
    rfl (by kernel_rfl) (by kernel_rfl) ?_ ?_
  · intro ds hl
    match ds, hl with
    | [d0, d1], _ => rfl
  · intro W base args ds p hshp hlaid hval hA
    rw [Tryd.params3] at hval hA
    obtain ⟨v0, vs0, d0, ds0, p0, q0, hargs, rfl, rfl, h0, r0⟩ := trodAll_cons hA
    obtain ⟨v1, vs1, d1, ds1, p1, q1, rfl, rfl, rfl, h1, r1⟩ := trodAll_cons r0
    obtain ⟨rfl, rfl, rfl⟩ := trodAll_nil r1
    obtain rfl : args = #[v0, v1] := by cases args; simp_all
    obtain ⟨s0, rfl, rfl, rfl, ws0⟩ := Go.ChangeMaps.open_string Tryd.underlying9 (hval 0 9 v0 rfl rfl) h0
    obtain ⟨x1, rfl, rfl, rfl, wx1⟩ := open_int Tryd.underlying5 (hval 1 5 v1 rfl rfl) h1
    exact lawSplitByte W hshp s0 ws0 x1 wx1

set_option maxRecDepth 100000 in
theorem fnExactSplitByte_holds : Rows.FnExactSplitByteSaid :=
  OpenClaim.holds_of_wide 3 Tryd.f3 rfl rfl rfl rfl rfl rfl rfl ⟨rfl, rfl, rfl, rfl, rfl⟩ rfl rfl rfl rfl rfl (by kernel_rfl) Tryd.func3 (by kernel_rfl)
    (of_decide_eq_true (by kernel_rfl)) (by unfold Func.isWrapper; first | (rw [if_pos (by decide +kernel)]; kernel_rfl) | (rw [if_neg (by decide +kernel)]; exact ⟨rfl, rfl⟩))
    (fun os started H enc _ => fnExactSplitByte_lifted os started H enc)
set_option maxRecDepth 100000 in
theorem fnExactSplitByteCard_holds : Rows.FnExactSplitByteCardSaid :=
  Claim7.holds_tied_plain_at .later [] [.data, .pinned] true (true, "aa9642b49b57d4b5938dccc296989dd820edad58c476c2c9cc032796bab53893") false fnExactSplitByte_holds (fun _ h => by cases h) (by kernel_rfl) (fun _ h => by cases h) fnExactSplitByte_row_tie rfl ⟨rfl, rfl⟩ (by kernel_rfl) rfl
    (fun f fn hf hfn => by
      obtain rfl : f = 3 := Option.some.inj ((show Tryd.prog.funcNamed "loop.example/g03103/laws.FnExactSplitByte" = some 3 by kernel_rfl).symm.trans hf) |>.symm
      obtain rfl : fn = Tryd.f3 := (Option.some.inj (Tryd.func3.symm.trans hfn)).symm
      exact ⟨by kernel_rfl, fun j t ht => by
        have hall : (Tryd.f3.params.toList.all fun u => !Tryd.prog.wantsStandIn u) = true := by kernel_rfl
        have hm : t ∈ Tryd.f3.params.toList := Array.mem_toList_iff.2 (Array.mem_of_getElem? ht)
        exact (show Tryd.prog.wantsStandIn t = false by simpa using List.all_eq_true.1 hall t hm)⟩)
    (by kernel_rfl)

end Go.Proofs.YtmlnfbhlfhifiaaDoor
