/- FnWords returns true for every input and leaves its argument as it was. No conditions. -/
import Derived.Test.YtidfnhoeaofgeaaWordsP
import Derived.Test.YtidfnhoeaofgeaaDrawW
import Derived.Test.YtidfnhoeaofgeaaWordsOf
import Derived.Test.YtidfnhoeaofgeaaFrameB
import Derived.Test.YtidfnhoeaofgeaaFrameS
namespace Go.Proofs.Ytidfnhoeaofgeaa
open Go.RowKit Go.Deep Go.ChangeShapes Go.WideShapes Go.ChangeAt

set_option maxRecDepth 10000 in
set_option maxHeartbeats 400000 in
theorem bigC (v : Value) (l : List UInt8) (w : World) (hv : BytesV w v l) :
    Calls Try.prog 35 #[v] w fun e w' => e = .returned (.bool (decide (1048576 < (l.length : Int)))) ∧ w = w' := by
  obtain ⟨a, cap, rfl, hn, HC⟩ := Row.open hv
  rw [bv_length] at hn ⊢
  obtain ⟨n, hl⟩ : ∃ n, l.length = n := ⟨_, rfl⟩
  rw [hl] at hn ⊢
  clear HC hv
  go_enter Try.func35, Try.ntmps35
  go_wp2
  go_ret
  exact ⟨rfl, rfl⟩
set_option maxRecDepth 10000 in
set_option maxHeartbeats 400000 in
theorem sameTexts (v v' : Value) (l l' : List ByteArray) (w : World) (h : Strs w v l) (h' : Strs w v' l') :
    Calls Try.prog 44 #[v, v'] w fun e w' => e = .returned (.bool (same l l')) ∧ Drawn w w' := by
  obtain ⟨a, n, cap, rfl, HL, hn, HC⟩ := h.open
  obtain ⟨a', n', cap', rfl, HL', hn', HC'⟩ := h'.open
  by_cases hne : n = n'
  · subst hne
    go_enter Try.func44, Try.ntmps44
    go_wp2
    go_loopw [5] (fun i wr => (∃ j : Nat, j ≤ n ∧ i = .int .i64 j ∧ Hid (l.take j = l'.take j)) ∧ Drawn w wr) (fun i _ => n - (intOf i).toNat)
    case atStart => exact ⟨⟨0, Nat.zero_le _, rfl, Lib.hid rfl⟩, Drawn.refl _⟩
    case round =>
      obtain ⟨⟨j, hj, rfl, HT⟩, hd⟩ := hrel
      by_cases hlt : j < n
      · obtain ⟨b, off, x, rfl, hc, HX⟩ := HC.out j hlt
        obtain ⟨b', off', x', rfl, hc', HX'⟩ := HC'.out j hlt
        have hc1 := hd.cell hc
        have hc1' := hd.cell hc'
        by_cases hx : x = x'
        · subst hx
          go_wp2
          go_quiet (fail)
          go_wp2
          go_roundw
          case rel => exact ⟨⟨j + 1, by omega, by go_num, Lib.hid (take_eq_succ HT.out HX.out HX'.out rfl)⟩, hd.drewN _⟩
          case measure => simp [intOf]; omega
        · have hx2 := beq_toList_ne hx
          have hx3 := bne_toList_ne hx
          go_wp2
          go_quiet (fail)
          go_wp2
          go_ret
          exact ⟨ret_bool (same_ne (ne_of_get HX.out HX'.out hx)).symm, hd.drewN _⟩
      · go_wp2
        go_ret
        exact ⟨ret_bool (same_eq (eq_of_take_all HL.out HL'.out HT.out hlt)).symm, hd⟩
  · go_enter Try.func44, Try.ntmps44
    go_wp2
    go_ret
    exact ⟨ret_bool (same_ne (ne_of_len HL.out HL'.out hne)).symm, Drawn.refl _⟩

theorem bytesKeep {w w' : World} {v : Value} {l : List UInt8} (h : BytesV w v l) (hb : Below w.heap.size w w') : BytesV w' v l := Row.keep h hb
set_option maxRecDepth 10000 in
set_option maxHeartbeats 1600000 in
theorem lawWords (w : World) (hsh : w.ShapedOpen Try.prog) (v : Value) (l : List UInt8) (hv : BytesV w v l) :
    Calls Try.prog 11 #[v] w fun e w' => e = .returned (.bool true) ∧ Below w.heap.size w w' := by
  have hm : Ml w := Try.laysM144.s1_3 w hsh
  by_cases hbig : 1048576 < (l.length : Int)
  · have hd : decide (1048576 < (l.length : Int)) = true := decide_eq_true hbig
    go_enter Try.func11, Try.ntmps11
    go_wp2_with fail
    refine (bigC v l _ hv).mono ?_
    rintro e w1 ⟨rfl, rfl⟩
    rw [hd]
    go_wp2
    go_ret
    exact ⟨rfl, Below.refl _ _⟩
  have hd : decide (1048576 < (l.length : Int)) = false := decide_eq_false hbig
  clear hbig hsh
  go_enter Try.func11, Try.ntmps11
  go_wp2_with fail
  refine (bigC v l _ hv).mono ?_
  rintro e w1 ⟨rfl, rfl⟩
  rw [hd]
  clear hd
  -- the word and its root
  go_wp2_with fail
  refine (dRoot v l _ hv).mono ?_
  rintro e w1 ⟨s, rfl, hs, b1⟩
  have HRF := Lib.hid (root_rep s)
  have hRI := Lib.hid (iRootOf s w1 (by omega))
  have hRS := Lib.hid (fun w' => sRootOf s w' (by omega))
  have hLI := Lib.hid (fun w' => iLeastTurn s w' (by omega))
  have hLS := Lib.hid (fun w' => sLeastTurn s w' (by omega))
  have hMI := Lib.hid (fun w' => iMirrorWord s w' (by omega))
  have hMS := Lib.hid (fun w' => sMirrorWord s w' (by omega))
  have hMM := Lib.hid (fun w' => iMirrorWord (mirror s) w' (by rw [mirror_size]; omega))
  obtain ⟨R, hR⟩ : ∃ R, rootS s = R := ⟨_, rfl⟩
  obtain ⟨K, hK⟩ : ∃ K, rootK s = K := ⟨_, rfl⟩
  obtain ⟨LE, hLE⟩ : ∃ L, least s = L := ⟨_, rfl⟩
  obtain ⟨M, hM⟩ : ∃ M, mirror s = M := ⟨_, rfl⟩
  have hMe : mirror M = s := by rw [← hM, mirror_mirror]
  rw [hR, hK] at HRF hRI
  simp only [hR, hK] at hRS
  simp only [hLE] at hLI hLS
  simp only [hM] at hMI hMS hMM
  simp only [hMe] at hMM
  clear hR hK hLE hM hMe
  go_wp2_with fail
  refine hRI.out.mono ?_
  rintro e w2 ⟨rfl, hb2⟩
  have b2 := b1.trans (hb2.mono b1.size)
  clear hRI hb2 b1
  go_wp2_with fail
  refine (hRS.out _).mono ?_
  rintro e w3 ⟨rfl, hd3⟩
  have b3 := b2.trans (hd3.below _)
  clear hRS hd3 b2
  -- the turned word
  go_wp2_with fail
  refine (dTurn v l _ (bytesKeep hv b3)).mono ?_
  rintro e w4 ⟨s2, t2, rfl, hs2, hb4⟩
  have b4 := b3.trans (hb4.mono b3.size)
  have HTL := Lib.hid (fun h => turn_least (s := s2) (x := t2) h)
  have hTI := Lib.hid (fun w' => iTurnWord s2 t2 w' (by omega))
  have hTS := Lib.hid (fun w' => sTurnWord s2 t2 w' (by omega))
  have hz9 : (turn s2 t2).size ≤ 16 := by rcases turn_size s2 t2 with h | h <;> omega
  have hL2 := Lib.hid (fun w' => iLeastTurn s2 w' (by omega))
  have hL3 := Lib.hid (fun w' => iLeastTurn (turn s2 t2) w' (by omega))
  obtain ⟨U, hU⟩ : ∃ U, turn s2 t2 = U := ⟨_, rfl⟩
  rw [hU] at HTL hL3
  simp only [hU] at hTI hTS
  clear hU hz9 hb4 b3
  go_wp2_with fail
  refine (hTI.out _).mono ?_
  rintro e w5 ⟨rfl, hd5⟩
  have b5 := b4.trans (hd5.below _)
  clear hTI hd5 b4
  -- the factors
  go_wp2_with fail
  refine (dFactors v l _ (bytesKeep hv b5)).mono ?_
  rintro e w6 ⟨s3, n3, rfl, hs3, hb6⟩
  have b6 := b5.trans (hb6.mono b5.size)
  clear hb6 b5
  have HFF := Lib.hid (facL_facts s3 n3)
  have hFI := Lib.hid (fun w' => iFactorsOf s3 n3 w' (by omega))
  have hFS := Lib.hid (fun w' => sFactorsOf s3 n3 w' (by omega))
  obtain ⟨P, hP⟩ : ∃ P, facL s3 n3 = P := ⟨_, rfl⟩
  rw [hP] at HFF
  simp only [hP] at hFI hFS
  clear hP
  go_wp2_with fail
  refine (hFI.out _).mono ?_
  rintro e w7 ⟨vp, rfl, (hop : OwnS _ _ _ _ _), hb7⟩
  have b7 := b6.trans (hb7.mono b6.size)
  replace hop := OwnS.strs hop
  clear hFI hb7 b6
  -- the words
  go_wp2_with fail
  refine (dWords v l _ (bytesKeep hv b7)).mono ?_
  rintro e w8 ⟨k4, n4, rfl, hb8⟩
  have b8 := b7.trans (hb8.mono b7.size)
  replace hop := hop.keep hb8
  clear hb8 b7
  have hWI := Lib.hid (fun w' => iWordsOf k4 n4 w')
  have hWS := Lib.hid (fun w' => sWordsOf k4 n4 w')
  obtain ⟨W4, hW4⟩ : ∃ W4, wordsL k4 n4 = W4 := ⟨_, rfl⟩
  simp only [hW4] at hWI hWS
  clear hW4
  go_wp2_with fail
  refine (hWI.out _).mono ?_
  rintro e w9 ⟨va, rfl, (hoa : OwnS _ _ _ _ _), hb9⟩
  have b9 := b8.trans (hb9.mono b8.size)
  replace hop := hop.keep hb9
  replace hoa := OwnS.strs hoa
  clear hWI hb9 b8
  -- the other draws
  go_wp2_with fail
  refine (dOccurs v l _ (bytesKeep hv b9)).mono ?_
  rintro e w10 ⟨s5, p5, rfl, hs5, hp5, hb10⟩
  have b10 := b9.trans (hb10.mono b9.size)
  replace hop := hop.keep hb10
  replace hoa := hoa.keep hb10
  clear hb10 b9
  go_wp2_with fail
  refine (dIsWord v l _ (bytesKeep hv b10)).mono ?_
  rintro e w11 ⟨k6, s6, rfl, hs6, hb11⟩
  have b11 := b10.trans (hb11.mono b10.size)
  replace hop := hop.keep hb11
  replace hoa := hoa.keep hb11
  clear hb11 b10 hv
  have q0 : (R.toList != R.toList) = false := by simp
  have q1 : (K != K) = false := by simp
  have q2 : (U.toList != U.toList) = false := by simp
  have q3 : (LE.toList != LE.toList) = false := by simp
  have q4 : (M.toList != M.toList) = false := by simp
  have q5 : ∀ b : Bool, (b != b) = false := fun b => by simp
  go_wp2_with fail
  refine (hTS.out _).mono ?_
  rintro e w12 ⟨rfl, hd12⟩
  have b12 := b11.trans (hd12.below _)
  replace hop := hop.keep (hd12.below _)
  replace hoa := hoa.keep (hd12.below _)
  clear hTS hd12 b11
  go_wp2_with fail
  refine (hFS.out _).mono ?_
  rintro e w13 ⟨v13, rfl, (ho13 : OwnS _ _ _ _ _), hb13⟩
  have b13 := b12.trans (hb13.mono b12.size)
  replace hop := hop.keep hb13
  replace hoa := hoa.keep hb13
  clear hFS hb13 b12
  go_wp2_with fail
  refine (sameTexts _ _ P P _ hop ho13.strs).mono ?_
  rintro e w14 ⟨rfl, hd14⟩
  rw [same_refl]
  have b14 := b13.trans (hd14.below _)
  replace hop := hop.keep (hd14.below _)
  replace hoa := hoa.keep (hd14.below _)
  clear hd14 b13 ho13
  go_wp2_with fail
  refine (hWS.out _).mono ?_
  rintro e w15 ⟨v15, rfl, (ho15 : OwnS _ _ _ _ _), hb15⟩
  have b15 := b14.trans (hb15.mono b14.size)
  replace hop := hop.keep hb15
  replace hoa := hoa.keep hb15
  clear hWS hb15 b14
  go_wp2_with fail
  refine (sameTexts _ _ W4 W4 _ hoa ho15.strs).mono ?_
  rintro e w16 ⟨rfl, hd16⟩
  rw [same_refl]
  have b16 := b15.trans (hd16.below _)
  replace hop := hop.keep (hd16.below _)
  clear hd16 b15 hoa ho15
  go_wp2_with fail
  refine (iOccursIn s5 p5 _ (hm.keep b16) (by omega)).mono ?_
  rintro e w17 ⟨rfl, rfl⟩
  go_wp2_with fail
  refine (sOccursIn s5 p5 _ (by omega) (by omega)).mono ?_
  rintro e w18 ⟨rfl, rfl⟩
  obtain ⟨OC, hOC⟩ : ∃ b, occ s5 p5 = b := ⟨_, rfl⟩
  rw [hOC]
  clear hOC
  have q6 := q5 OC
  go_wp2_with fail
  refine (iIsWord k6 s6 _ (by omega)).mono ?_
  rintro e w19 ⟨rfl, rfl⟩
  go_wp2_with fail
  refine (sIsWord k6 s6 _ (by omega)).mono ?_
  rintro e w20 ⟨rfl, rfl⟩
  obtain ⟨WB, hWB⟩ : ∃ b, isWord k6 s6 = b := ⟨_, rfl⟩
  rw [hWB]
  clear hWB
  have q7 := q5 WB
  clear q5
  go_wp2_with fail
  refine (hLI.out _).mono ?_
  rintro e w21 ⟨rfl, hd21⟩
  have b21 := b16.trans (hd21.below _)
  replace hop := hop.keep (hd21.below _)
  clear hd21 b16
  go_wp2_with fail
  refine (hLS.out _).mono ?_
  rintro e w22 ⟨rfl, hd22⟩
  have b22 := b21.trans (hd22.below _)
  replace hop := hop.keep (hd22.below _)
  clear hd22 b21
  go_wp2_with fail
  refine (hMI.out _).mono ?_
  rintro e w23 ⟨rfl, hb23⟩
  have b23 := b22.trans (hb23.mono b22.size)
  replace hop := hop.keep hb23
  clear hb23 b22
  go_wp2_with fail
  refine (hMS.out _).mono ?_
  rintro e w24 ⟨rfl, hb24⟩
  have b24 := b23.trans (hb24.mono b23.size)
  replace hop := hop.keep hb24
  clear hb24 b23 hLI hLS hMS
  obtain ⟨a9, n9, c9, rfl, HL9, hn9, HC9⟩ := hop.open
  have hm24 := hm.keep b24
  go_wp2
  go_loopw [21] (fun i wr => (∃ j : Nat, j ≤ n9 ∧ i = .int .i64 j) ∧ Drawn w24 wr) (fun i _ => n9 - (intOf i).toNat)
  case atStart => exact ⟨⟨0, Nat.zero_le _, rfl⟩, Drawn.refl _⟩
  case round =>
    obtain ⟨⟨j, hj, rfl⟩, hd⟩ := hrel
    have hmr := hm24.keep (hd.below _)
    by_cases hlt : j < n9
    · obtain ⟨b, off, x, rfl, hc, HX⟩ := HC9.out j hlt
      have hc1 := hd.cell hc
      obtain ⟨hx1, hx2⟩ := HFF.out.1 x (List.mem_of_getElem? HX.out)
      have hO : Hid (∀ w', Ml w' → Calls Try.prog 45 #[.string s3, .string x] w' fun e w'' => e = .returned (.bool true) ∧ w'' = w') := Lib.hid (fun w' h => by
        rw [← hx1]
        exact (iOccursIn s3 x w' h (by omega)).mono fun _ _ h => ⟨h.1, h.2.symm⟩)
      clear hx1
      cases j with
      | zero =>
        simp only [Nat.add_zero] at hc1
        go_wp2
        go_quiet ((go_at_call 45; exact Calls.quiet_of_same (hO.out _ (hmr.keep (below_drewN _ _)))))
        go_wp2
        go_roundw
        case rel => exact ⟨⟨1, by omega, by go_num⟩, hd.drewN _⟩
        case measure => simp [intOf]; omega
      | succ j =>
        obtain ⟨b2, off2, y, hab, hcy, HY⟩ := HC9.out j (by omega)
        cases hab
        have hcy1 := hd.cell hcy
        have hlty := HFF.out.2 j y x HY.out HX.out
        have hbl : Op.bytesLess y.toList x.toList = true := by rw [bytesLess_ltS]; exact hlty
        clear hlty
        go_wp2
        go_quiet ((go_at_call 45; exact Calls.quiet_of_same (hO.out _ (hmr.keep (below_drewN _ _)))))
        go_wp2
        go_roundw
        case rel => exact ⟨⟨j + 2, by omega, by go_num⟩, hd.drewN _⟩
        case measure => simp [intOf]; omega
    · have br := b24.trans (hd.below w.heap.size)
      clear hmr hd HFF HC9 HL9 hop hm24 hm b24
      obtain ⟨wa, hwa⟩ : ∃ wa, wr = wa := ⟨_, rfl⟩
      rw [hwa] at br ⊢
      clear hwa
      by_cases hu : U.size = 0
      · obtain rfl := size_zero hu
        clear hL3 hL2 HTL
        go_wp2
        rcases HRF.out with ⟨rfl, rfl⟩ | ⟨c, hc1, hc16, rfl, hrep⟩
        · go_loopw [22, 23] (fun q i wr => i = .int .i64 0 ∧ q = .string ByteArray.empty ∧ wr = wa) (fun _ _ _ => 0)
          case atStart => exact ⟨rfl, rfl, rfl⟩
          case round =>
            obtain ⟨rfl, rfl, rfl⟩ := hrel
            go_wp2
            go_ret
            exact ⟨rfl, br⟩
        · have HREP := Lib.hid hrep
          have hRz : R.size ≤ 16 := by
            have h7 := rep_size R c
            rw [hrep] at h7
            have h8 : 1 * R.size ≤ c * R.size := Nat.mul_le_mul hc1 (Nat.le_refl _)
            omega
          clear hrep
          have q10 : ((c : Int) == 0) = false := beq_eq_false_iff_ne.2 (by omega)
          have q11 : (s.toList == s.toList) = true := beq_self_eq_true _
          go_loopw [22, 23] (fun q i wr => ∃ (j : Nat) (x : ByteArray), j ≤ c ∧ i = .int .i64 j ∧ q = .string x ∧ Hid (x = rep R j) ∧ wr = wa) (fun _ i _ => c - (intOf i).toNat)
          case atStart => exact ⟨0, ByteArray.empty, Nat.zero_le _, rfl, rfl, Lib.hid (rep_zero R).symm, rfl⟩
          case round =>
            obtain ⟨j, x, hj, rfl, rfl, HX, rfl⟩ := hrel
            have hxs : x.size ≤ 1099511627776 := by
              have h1 := rep_size R j
              rw [← HX.out] at h1
              have h2 : j * R.size ≤ 16 * 16 := Nat.mul_le_mul (by omega) hRz
              omega
            by_cases hlt : j < c
            · go_wp2
              go_roundw
              case rel => exact ⟨j + 1, x ++ R, by omega, by go_num, rfl, Lib.hid (by rw [rep_succ, HX.out]), trivial⟩
              case measure => simp [intOf]; omega
            · have e : j = c := by omega
              subst e
              have hxe : x = s := by rw [HX.out, HREP.out]
              subst hxe
              go_wp2_with fail
              refine (hMI.out _).mono ?_
              rintro e w41 ⟨rfl, hb41⟩
              have b41 := br.trans (hb41.mono br.size)
              go_wp2_with fail
              refine (hMM.out _).mono ?_
              rintro e w42 ⟨rfl, hb42⟩
              have b42 := b41.trans (hb42.mono b41.size)
              go_wp2
              go_ret
              exact ⟨rfl, b42⟩
      · have he := notEmpty hu
        obtain ⟨t1, t2⟩ := HTL.out hu
        rw [t1] at hL3
        obtain ⟨L2, hL2e⟩ : ∃ L2, least s2 = L2 := ⟨_, rfl⟩
        rw [hL2e] at hL3
        simp only [hL2e] at hL2
        obtain ⟨z, hz2⟩ : ∃ z, s2.size = z := ⟨_, rfl⟩
        rw [hz2] at t2
        have q8 : (L2.toList != L2.toList) = false := by simp
        have q9 : ((z : Int) != (z : Int)) = false := by simp
        clear HTL hL2e t1
        go_wp2_with fail
        refine (hL3.out _).mono ?_
        rintro e w31 ⟨rfl, hd31⟩
        have b31 := br.trans (hd31.below _)
        go_wp2_with fail
        refine (hL2.out _).mono ?_
        rintro e w32 ⟨rfl, hd32⟩
        have b32 := b31.trans (hd32.below _)
        clear br b31 hd31 hd32
        go_wp2
        rcases HRF.out with ⟨rfl, rfl⟩ | ⟨c, hc1, hc16, rfl, hrep⟩
        · go_loopw [22, 23] (fun q i wr => i = .int .i64 0 ∧ q = .string ByteArray.empty ∧ wr = w32) (fun _ _ _ => 0)
          case atStart => exact ⟨rfl, rfl, rfl⟩
          case round =>
            obtain ⟨rfl, rfl, rfl⟩ := hrel
            go_wp2
            go_ret
            exact ⟨rfl, b32⟩
        · have HREP := Lib.hid hrep
          have hRz : R.size ≤ 16 := by
            have h7 := rep_size R c
            rw [hrep] at h7
            have h8 : 1 * R.size ≤ c * R.size := Nat.mul_le_mul hc1 (Nat.le_refl _)
            omega
          clear hrep
          have q10 : ((c : Int) == 0) = false := beq_eq_false_iff_ne.2 (by omega)
          have q11 : (s.toList == s.toList) = true := beq_self_eq_true _
          go_loopw [22, 23] (fun q i wr => ∃ (j : Nat) (x : ByteArray), j ≤ c ∧ i = .int .i64 j ∧ q = .string x ∧ Hid (x = rep R j) ∧ wr = w32) (fun _ i _ => c - (intOf i).toNat)
          case atStart => exact ⟨0, ByteArray.empty, Nat.zero_le _, rfl, rfl, Lib.hid (rep_zero R).symm, rfl⟩
          case round =>
            obtain ⟨j, x, hj, rfl, rfl, HX, rfl⟩ := hrel
            have hxs : x.size ≤ 1099511627776 := by
              have h1 := rep_size R j
              rw [← HX.out] at h1
              have h2 : j * R.size ≤ 16 * 16 := Nat.mul_le_mul (by omega) hRz
              omega
            by_cases hlt : j < c
            · go_wp2
              go_roundw
              case rel => exact ⟨j + 1, x ++ R, by omega, by go_num, rfl, Lib.hid (by rw [rep_succ, HX.out]), trivial⟩
              case measure => simp [intOf]; omega
            · have e : j = c := by omega
              subst e
              have hxe : x = s := by rw [HX.out, HREP.out]
              subst hxe
              go_wp2_with fail
              refine (hMI.out _).mono ?_
              rintro e w41 ⟨rfl, hb41⟩
              have b41 := b32.trans (hb41.mono b32.size)
              go_wp2_with fail
              refine (hMM.out _).mono ?_
              rintro e w42 ⟨rfl, hb42⟩
              have b42 := b41.trans (hb42.mono b41.size)
              go_wp2
              go_ret
              exact ⟨rfl, b42⟩
set_option maxRecDepth 100000 in
theorem fnWords_lifted (os : Os) (started : os.Started) (H : Type) (enc : TypeId × Value → H) :
    ReturnsInHanded {} Try.checked os 11 .any (Rows.fnWordsSpec.pre6 enc Try.prog Try.f11 Rows.fnWordsRow.domain false) (Rows.fnWordsSpec.post enc Try.prog Try.f11 false true false false) := by
  refine lifted_law_shaped started (by kernel_rfl) Try.func11
    (ChangeSpec.witness6 (enc := enc) (C := Try.checked) false ⟨#[], #[.slice none 0 0], []⟩ 8 (by kernel_rfl) (by kernel_rfl) (by kernel_rfl) (by kernel_rfl))
    rfl (by kernel_rfl) (by kernel_rfl) ?_ ?_
  · intro ds hl
    match ds, hl with
    | [d0], _ => rfl
  · intro W base args ds p hshp hval hA
    rw [Try.params11] at hval hA
    obtain ⟨v0, vs0, d0, ds0, p0, q0, hargs, rfl, rfl, h0, r0⟩ := trodAll_cons hA
    obtain ⟨rfl, rfl, rfl⟩ := trodAll_nil r0
    obtain rfl : args = #[v0] := by cases args; simp_all
    obtain ⟨a0, n0, c0, rfl⟩ := okWide_slice Try.underlying45 (hval 0 45 v0 rfl rfl)
    obtain ⟨m0, hm0⟩ : ∃ l, BytesV W (.slice a0 n0 c0) l := by obtain ⟨fu, hf⟩ := h0; exact bytes_of_trod Try.underlying45 Try.underlying5 (by kernel_rfl) rfl hf
    exact lawWords W hshp _ m0 hm0

set_option maxRecDepth 100000 in
theorem fnWords_holds : Rows.FnWordsSaid :=
  OpenClaim.holds_of_wide 11 Try.f11 rfl rfl rfl rfl rfl rfl rfl ⟨rfl, rfl, rfl, rfl, rfl⟩ rfl rfl rfl rfl rfl (by kernel_rfl) Try.func11 (by kernel_rfl)
    (of_decide_eq_true (by kernel_rfl)) (by unfold Func.isWrapper; first | (rw [if_pos (by decide +kernel)]; kernel_rfl) | (rw [if_neg (by decide +kernel)]; exact ⟨rfl, rfl⟩))
    (fun os started H enc _ => fnWords_lifted os started H enc)

end Go.Proofs.Ytidfnhoeaofgeaa
