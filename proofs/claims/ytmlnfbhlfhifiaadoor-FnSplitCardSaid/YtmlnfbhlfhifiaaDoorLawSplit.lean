/- FnSplit returns true for every input and leaves its argument as it was. No conditions. -/
import Derived.Test.YtmlnfbhlfhifiaaDoorDrawSp
import Derived.Test.YtmlnfbhlfhifiaaDoorFrameB
import Derived.Test.YtmlnfbhlfhifiaaDoorFrameD
namespace Go.Proofs.YtmlnfbhlfhifiaaDoor
open Go.RowKit Go.Deep Go.ChangeShapes Go.WideShapes Go.ChangeAt

set_option maxRecDepth 10000 in
set_option maxHeartbeats 400000 in
theorem bigC (v : Value) (l : List UInt8) (w : World) (hv : BytesV w v l) :
    Calls Tryd.prog 10 #[v] w fun e w' => e = .returned (.bool (decide (1048576 < (l.length : Int)))) ∧ w = w' := by
  obtain ⟨a, cap, rfl, hn, HC⟩ := Row.open hv
  rw [bv_length] at hn ⊢
  obtain ⟨n, hl⟩ : ∃ n, l.length = n := ⟨_, rfl⟩
  rw [hl] at hn ⊢
  clear HC hv
  go_enter Tryd.func10, Tryd.ntmps10
  go_wp2
  go_ret
  exact ⟨rfl, rfl⟩
set_option maxRecDepth 10000 in
set_option maxHeartbeats 400000 in
theorem lawSplit (w : World) (hsh : w.ShapedOpen Tryd.prog) (v : Value) (l : List UInt8) (hv : BytesV w v l) :
    Calls Tryd.prog 4 #[v] w fun e w' => e = .returned (.bool true) ∧ Below w.heap.size w w' := by
  have hm : Ml w := Tryd.laysM146.s1_3 w hsh
  by_cases hbig : 1048576 < (l.length : Int)
  · have hd : decide (1048576 < (l.length : Int)) = true := decide_eq_true hbig
    go_enter Tryd.func4, Tryd.ntmps4
    go_wp2_with fail
    refine (bigC v l _ hv).mono ?_
    rintro e w1 ⟨rfl, rfl⟩
    rw [hd]
    go_wp2
    go_ret
    exact ⟨rfl, Below.refl _ _⟩
  have hd : decide (1048576 < (l.length : Int)) = false := decide_eq_false hbig
  clear hbig
  go_enter Tryd.func4, Tryd.ntmps4
  go_wp2_with fail
  refine (bigC v l _ hv).mono ?_
  rintro e w1 ⟨rfl, rfl⟩
  rw [hd]
  clear hd
  go_wp2_with fail
  refine (dSplit v l _ hv).mono ?_
  rintro e w2 ⟨s, b, rfl, hs, b2⟩
  have hs2 : s.size ≤ 1048576 := by omega
  have hlen := splL_small s b hs2
  have htot := splL_total s b
  have hcnt : (splL s b).length ≤ 11 := by rw [splL_len]; have := countB_small s b; omega
  have HP : Hid (∀ p ∈ splL s b, splL p b = [p] ∧ p.size ≤ 1048576) := Lib.hid fun p hp => ⟨splL_part hp, by have := size_le_totalS hp; omega⟩
  have HJ := Lib.hid (joined_splL s b)
  have HT : Hid ((splL s b).length + totalS (splL s b) ≤ 1048576) := Lib.hid (by omega)
  clear htot hlen
  obtain ⟨L, hL⟩ : ∃ L, splL s b = L := ⟨_, rfl⟩
  have hI := Lib.hid (iSplitByte s b w2 (hm.keep b2) hs2)
  have hS := Lib.hid (fun w' => sSplitByte s b w' hs2)
  rw [hL] at HP HJ HT hI hS hcnt
  clear hL
  go_wp2_with fail
  refine hI.out.mono ?_
  rintro e w3 ⟨vp, rfl, (ho : OwnS _ _ _ _ _), b3'⟩
  replace ho := ho.toH
  have b3 := b2.trans (b3'.mono b2.size)
  have hb8 := below_alloc w3 (.cells #[.int .u8 (b.toNat : Int)] 5)
  have hob : Own 5 w3.heap.size (w3.alloc (.cells #[.int .u8 (b.toNat : Int)] 5)) (.slice (some ⟨w3.heap.size, 0, none⟩) 1 1) (bv [b]) :=
    World.ownsRow_lit w3 #[.int .u8 (b.toNat : Int)] 1 (Nat.le_refl _) (by simp [maxLen]) rfl
  have hr := run_str_own (P := Tryd.prog) _ 27 5 Tryd.underlying27 Tryd.underlying5 hob 9 Tryd.underlying9
  obtain ⟨w4, hw4⟩ : ∃ w4, w3.alloc (.cells #[.int .u8 (b.toNat : Int)] 5) = w4 := ⟨_, rfl⟩
  rw [hw4] at hr hb8
  have ho4 := ho.keep hb8
  have b4 := b3.trans (hb8.mono b3.size)
  have hJ := Lib.hid (iJoin vp L (str [b]) w4 ho4.strs HT.out (by rw [str_size]; simp))
  rw [HJ.out] at hJ
  obtain ⟨ap, cp, rfl⟩ := Own.form ho4.1 (show (strs L).length = L.length from strs_length L)
  obtain ⟨n, hn⟩ : ∃ n, L.length = n := ⟨_, rfl⟩
  rw [hn] at hJ ho4 hcnt ⊢
  have q1 : (s.toList != s.toList) = false := by simp
  have q2 : ((n : Int) != (n : Int)) = false := by simp
  clear hob
  go_wp2_with fail
  refine hJ.out.mono ?_
  rintro e w5 ⟨rfl, hb5⟩
  have b5 := b4.trans (hb5.mono b4.size)
  have ho5 := ho4.keep hb5
  go_wp2_with fail
  refine (hS.out _).mono ?_
  rintro e w6 ⟨v6, rfl, (ho6 : OwnS _ _ _ _ _), hb6⟩
  have b6 := b5.trans (hb6.mono b5.size)
  have ho7 := ho5.keep hb6
  obtain ⟨a6, c6, rfl⟩ := Own.form ho6 (show (strs L).length = n by rw [strs_length, hn])
  clear ho6 ho5 ho4 ho hI hS hJ
  obtain ⟨a9, n9, c9, e9, HL9, _, HC9⟩ := ho7.strs.open
  simp only [Value.slice.injEq] at e9
  obtain ⟨e91, e92, -⟩ := e9
  subst e91
  subst e92
  go_wp2
  go_loopw [6] (fun i wr => ∃ j : Nat, j ≤ n ∧ i = .int .i64 j ∧ Below w6.heap.size w6 wr) (fun i _ => n - (intOf i).toNat)
  case atStart => exact ⟨0, Nat.zero_le _, rfl, Below.refl _ _⟩
  case round =>
    obtain ⟨j, hj, rfl, hb⟩ := hrel
    by_cases hlt : j < n
    · obtain ⟨bk, off, x, rfl, hc, HX⟩ := HC9.out j hlt
      have hc1 := cell_keep hb hc
      obtain ⟨hx1, hx2⟩ := HP.out x (List.mem_of_getElem? HX.out)
      have hK := Lib.hid (iSplitByte x b wr (hm.keep (b6.trans (hb.mono b6.size))) hx2)
      rw [hx1] at hK
      clear hx1
      go_wp2_with fail
      refine hK.out.mono ?_
      rintro e w8 ⟨v8, rfl, (ho8 : OwnS _ _ _ _ _), hb8⟩
      obtain ⟨a8, c8, rfl⟩ := Own.form ho8 (show (strs [x]).length = 1 from rfl)
      have b8 := hb.trans (hb8.mono hb.size)
      go_wp2
      go_roundw
      case rel => exact ⟨j + 1, by omega, by go_num, b8⟩
      case measure => simp [intOf]; omega
    · go_wp2
      go_ret
      exact ⟨rfl, b6.trans (hb.mono b6.size)⟩
set_option maxRecDepth 100000 in
theorem fnSplit_lifted (os : Os) (started : os.Started) (H : Type) (enc : TypeId × Value → H) :
    ReturnsInHanded {} Tryd.checked os 4 .any (fun w args => (Rows.fnSplitSpec.pre enc Tryd.prog Tryd.f4 [] false w args ∧ laidMetH Tryd.prog Rows.fnSplitRow.laid w) ∧ sizedMet enc Tryd.prog Tryd.f4 (OpenSpec.ofChange Rows.fnSplitSpec) false w args) (Rows.fnSplitSpec.post enc Tryd.prog Tryd.f4 false true false false) := by
  refine lifted_law_door (lst := Rows.fnSplitRow.laid) started (by kernel_rfl) Tryd.func4
    (ChangeSpec.witness_shaped (enc := enc) (C := Tryd.checked) (os := os) (X := fun w _ => laidMetH Tryd.prog Rows.fnSplitRow.laid w) false (World.laidAll Tryd.prog os Rows.fnSplitRow.laid) #[.slice none 0 0] 8 (World.laidAll_os _ _ _)
      (World.shaped_of_ZipB (by kernel_rfl) (by kernel_rfl)) (by kernel_rfl) (by kernel_rfl) (by kernel_rfl)
      (by rw [MakeChecks.laidMetH_plain _ _ _ (by kernel_rfl)]; exact laidMet_laidAll _ (by kernel_rfl) (by kernel_rfl)))
    rfl (by kernel_rfl) (by kernel_rfl) ?_ ?_
  · intro ds hl
    match ds, hl with
    | [d0], _ => rfl
  · intro W base args ds p hshp hlaid hval hA
    rw [Tryd.params4] at hval hA
    obtain ⟨v0, vs0, d0, ds0, p0, q0, hargs, rfl, rfl, h0, r0⟩ := trodAll_cons hA
    obtain ⟨rfl, rfl, rfl⟩ := trodAll_nil r0
    obtain rfl : args = #[v0] := by cases args; simp_all
    obtain ⟨a0, n0, c0, rfl⟩ := okWide_slice Tryd.underlying27 (hval 0 27 v0 rfl rfl)
    obtain ⟨m0, hm0⟩ : ∃ l, BytesV W (.slice a0 n0 c0) l := by obtain ⟨fu, hf⟩ := h0; exact bytes_of_trod Tryd.underlying27 Tryd.underlying5 (by kernel_rfl) rfl hf
    exact lawSplit W hshp _ m0 hm0

set_option maxRecDepth 100000 in
theorem fnSplit_holds : Rows.FnSplitSaid :=
  OpenClaim.holds_of_wide 4 Tryd.f4 rfl rfl rfl rfl rfl rfl rfl ⟨rfl, rfl, rfl, rfl, rfl⟩ rfl rfl rfl rfl rfl (by kernel_rfl) Tryd.func4 (by kernel_rfl)
    (of_decide_eq_true (by kernel_rfl)) (by unfold Func.isWrapper; first | (rw [if_pos (by decide +kernel)]; kernel_rfl) | (rw [if_neg (by decide +kernel)]; exact ⟨rfl, rfl⟩))
    (fun os started H enc _ => fnSplit_lifted os started H enc)
set_option maxRecDepth 100000 in
theorem fnSplitCard_holds : Rows.FnSplitCardSaid :=
  Claim7.holds_tied_plain_at .later [] [.data, .pinned] true (true, "aa9642b49b57d4b5938dccc296989dd820edad58c476c2c9cc032796bab53893") false fnSplit_holds (fun _ h => by cases h) (by kernel_rfl) (fun _ h => by cases h) fnSplit_row_tie rfl ⟨rfl, rfl⟩ (by kernel_rfl) rfl
    (fun f fn hf hfn => by
      obtain rfl : f = 4 := Option.some.inj ((show Tryd.prog.funcNamed "loop.example/g03103/laws.FnSplit" = some 4 by kernel_rfl).symm.trans hf) |>.symm
      obtain rfl : fn = Tryd.f4 := (Option.some.inj (Tryd.func4.symm.trans hfn)).symm
      exact ⟨by kernel_rfl, fun j t ht => by
        have hall : (Tryd.f4.params.toList.all fun u => !Tryd.prog.wantsStandIn u) = true := by kernel_rfl
        have hm : t ∈ Tryd.f4.params.toList := Array.mem_toList_iff.2 (Array.mem_of_getElem? ht)
        exact (show Tryd.prog.wantsStandIn t = false by simpa using List.all_eq_true.1 hall t hm)⟩)
    (by kernel_rfl)

end Go.Proofs.YtmlnfbhlfhifiaaDoor
