/- FnGraphs returns true for every input and leaves its argument as it was. No conditions. -/
import Derived.Test.YtenjakgahniijaaDrawG
import Derived.Test.YtenjakgahniijaaGraphP
import Derived.Test.YtenjakgahniijaaLivOf
import Derived.Test.YtenjakgahniijaaSame
import Derived.Test.YtenjakgahniijaaFrameB
import Derived.Test.YtenjakgahniijaaFrame
namespace Go.Proofs.Ytenjakgahniijaa
open Go.RowKit Go.Deep Go.ChangeShapes Go.WideShapes Go.ChangeAt
theorem trimB_zero {m : List (List Int)} (h : trimB m = false) : (livelyOf m).length = 0 := by
  unfold trimB at h
  have := of_decide_eq_false h
  omega
theorem beq_true_iff {a b : Int} {c : Bool} (h : c = decide (a = b)) : (c == (a == b)) = true := by
  subst h
  by_cases e : a = b
  · subst e; simp
  · rw [decide_eq_false e, beq_eq_false_iff_ne.2 e]; rfl
set_option maxRecDepth 10000 in
set_option maxHeartbeats 1600000 in
theorem lawGraphs (w : World) (v : Value) (l : List UInt8) (hv : BytesV w v l) :
    Calls Try.prog 3 #[v] w fun e w' => e = .returned (.bool true) ∧ Below w.heap.size w w' := by
  by_cases hbig : 1048576 < (l.length : Int)
  · have hd : decide (1048576 < (l.length : Int)) = true := decide_eq_true hbig
    go_enter Try.func3, Try.ntmps3
    go_wp2_with fail
    refine (bigC v l _ hv).mono ?_
    rintro e w1 ⟨rfl, rfl⟩
    rw [hd]
    go_wp2
    go_ret
    exact ⟨rfl, Below.refl _ _⟩
  have hd : decide (1048576 < (l.length : Int)) = false := decide_eq_false hbig
  clear hbig
  go_enter Try.func3, Try.ntmps3
  go_wp2_with fail
  refine (bigC v l _ hv).mono ?_
  rintro e w1 ⟨rfl, rfl⟩
  rw [hd]
  clear hd
  go_wp2_with fail
  refine (dPaths v l _ hv).mono ?_
  rintro e w2 ⟨v1, m, x, rfl, ho1, -, hb2⟩
  replace hv := bytesKeep hv hb2
  have b2 : Below w.heap.size w _ := hb2
  clear hb2
  have hm := ho1.mat
  obtain ⟨a1, c1, rfl⟩ := ho1.form
  clear ho1
  go_wp2_with fail
  refine (iPathsOf _ m x _ hm).mono ?_
  rintro e w3 ⟨v2, rfl, ho2, hb3⟩
  replace hv := bytesKeep hv hb3
  replace hm := hm.keep hb3
  have b3 := b2.trans (hb3.mono b2.size)
  clear hb3 b2
  have hl := ho2.mat
  clear ho2
  have HPK := Lib.hid (paths_ok m x)
  have HCT := Lib.hid (fun h1 h2 h3 h4 h5 => paths_count (m := m) (x := x) h1 h2 h3 h4 h5)
  go_wp2_with fail
  refine (dIsPath v l _ hv).mono ?_
  rintro e w4 ⟨va, u, ma, pa, rfl, ho3, hu, hb4⟩
  replace hv := bytesKeep hv hb4
  replace hm := hm.keep hb4
  replace hl := hl.keep hb4
  have b4 := b3.trans (hb4.mono b3.size)
  clear hb4 b3
  have ha := ho3.mat
  obtain ⟨a3, c3, rfl⟩ := ho3.form
  clear ho3
  go_wp2_with fail
  refine (dTrim v l _ hv).mono ?_
  rintro e w5 ⟨vt, t, rfl, ho4, -, hb5⟩
  replace hv := bytesKeep hv hb5
  replace hm := hm.keep hb5
  replace hl := hl.keep hb5
  replace ha := ha.keep hb5
  replace hu := Row.keep hu hb5
  have b5 := b4.trans (hb5.mono b4.size)
  clear hb5 b4
  have ht := ho4.mat
  obtain ⟨a4, c4, rfl⟩ := ho4.form
  clear ho4
  clear hv
  go_wp2_with fail
  refine (iTrimGraph _ t _ ht).mono ?_
  rintro e w6 ⟨vx, rfl, ho5, hb6⟩
  replace hm := hm.keep hb6
  replace hl := hl.keep hb6
  replace ha := ha.keep hb6
  replace hu := Row.keep hu hb6
  replace ht := ht.keep hb6
  have b6 := b5.trans (hb6.mono b5.size)
  clear hb6 b5
  have hx := ho5.mat
  obtain ⟨a5, c5, rfl⟩ := ho5.form
  clear ho5
  go_wp2_with fail
  refine (sTrimGraph _ t _ ht).mono ?_
  rintro e w7 ⟨vw, rfl, ho6, hb7⟩
  replace hm := hm.keep hb7
  replace hl := hl.keep hb7
  replace ha := ha.keep hb7
  replace hu := Row.keep hu hb7
  replace ht := ht.keep hb7
  replace hx := hx.keep hb7
  have b7 := b6.trans (hb7.mono b6.size)
  clear hb7 b6
  have hw := ho6.mat
  clear ho6
  go_wp2_with fail
  refine (iLivelyOf _ t _ ht).mono ?_
  rintro e w8 ⟨vl, rfl, ho7, hb8⟩
  replace hm := hm.keep hb8
  replace hl := hl.keep hb8
  replace ha := ha.keep hb8
  replace hu := Row.keep hu hb8
  replace ht := ht.keep hb8
  replace hx := hx.keep hb8
  replace hw := hw.keep hb8
  have b8 := b7.trans (hb8.mono b7.size)
  clear hb8 b7
  have hlv : Ints _ _ _ := ho7.row
  obtain ⟨a7, c7, rfl⟩ := Own.form ho7 (ints_length _)
  clear ho7
  go_wp2_with fail
  refine (iArcsOf _ m _ hm).mono ?_
  rintro e w9 ⟨vr, rfl, ho8, hb9⟩
  replace hm := hm.keep hb9
  replace hl := hl.keep hb9
  replace ha := ha.keep hb9
  replace hu := Row.keep hu hb9
  replace ht := ht.keep hb9
  replace hx := hx.keep hb9
  replace hw := hw.keep hb9
  replace hlv := Row.keep hlv hb9
  have b9 := b8.trans (hb9.mono b8.size)
  clear hb9 b8
  have hr := ho8.mat
  obtain ⟨a8, c8, rfl⟩ := ho8.form
  clear ho8
  have q5 : ∀ b : Bool, (b != b) = false := fun b => by simp
  have q6 : ∀ b : Int, (b != b) = false := fun b => by simp
  go_wp2_with fail
  refine (sPathsOf _ m x _ hm).mono ?_
  rintro e w10 ⟨vz, rfl, hoz, hb10⟩
  replace hm := hm.keep hb10
  replace hl := hl.keep hb10
  replace ha := ha.keep hb10
  replace hu := Row.keep hu hb10
  replace ht := ht.keep hb10
  replace hx := hx.keep hb10
  replace hw := hw.keep hb10
  replace hlv := Row.keep hlv hb10
  replace hr := hr.keep hb10
  have b10 := b9.trans (hb10.mono b9.size)
  clear hb10 b9
  have hz10 := hoz.mat
  clear hoz
  go_wp2_with fail
  refine (sameLists _ _ (pathsOf m x) (pathsOf m x) _ hl hz10).mono ?_
  rintro e w11 ⟨rfl, hb11⟩
  replace hm := hm.keep (hb11.below _)
  replace hl := hl.keep (hb11.below _)
  replace ha := ha.keep (hb11.below _)
  replace hu := Row.keep hu (hb11.below _)
  replace ht := ht.keep (hb11.below _)
  replace hx := hx.keep (hb11.below _)
  replace hw := hw.keep (hb11.below _)
  replace hlv := Row.keep hlv (hb11.below _)
  replace hr := hr.keep (hb11.below _)
  have b11 := b10.trans (hb11.below _)
  clear hb11 b10
  rw [same_refl]
  clear hz10
  go_wp2_with fail
  refine (iIsPath _ u ma pa _ ha hu).mono ?_
  rintro e w12 ⟨rfl, hb12⟩
  replace hm := hm.keep hb12
  replace hl := hl.keep hb12
  replace ha := ha.keep hb12
  replace hu := Row.keep hu hb12
  replace ht := ht.keep hb12
  replace hx := hx.keep hb12
  replace hw := hw.keep hb12
  replace hlv := Row.keep hlv hb12
  replace hr := hr.keep hb12
  have b12 := b11.trans (hb12.mono b11.size)
  clear hb12 b11
  go_wp2_with fail
  refine (sIsPath _ u ma pa _ ha hu).mono ?_
  rintro e w13 ⟨rfl, hb13⟩
  replace hm := hm.keep hb13
  replace hl := hl.keep hb13
  replace ha := ha.keep hb13
  replace hu := Row.keep hu hb13
  replace ht := ht.keep hb13
  replace hx := hx.keep hb13
  replace hw := hw.keep hb13
  replace hlv := Row.keep hlv hb13
  replace hr := hr.keep hb13
  have b13 := b12.trans (hb13.mono b12.size)
  clear hb13 b12
  clear ha hu
  obtain ⟨IP, hIP⟩ : ∃ b, isPath ma pa = b := ⟨_, rfl⟩
  rw [hIP]
  clear hIP
  have q7 := q5 IP
  obtain ⟨TB, hTB⟩ : ∃ b, trimB t = b := ⟨_, rfl⟩
  rw [hTB]
  have q8 := q5 TB
  go_wp2_with fail
  refine (sameLists _ _ (trimM t) (trimM t) _ hx hw).mono ?_
  rintro e w14 ⟨rfl, hb14⟩
  replace hm := hm.keep (hb14.below _)
  replace hl := hl.keep (hb14.below _)
  replace ht := ht.keep (hb14.below _)
  replace hx := hx.keep (hb14.below _)
  replace hw := hw.keep (hb14.below _)
  replace hlv := Row.keep hlv (hb14.below _)
  replace hr := hr.keep (hb14.below _)
  have b14 := b13.trans (hb14.below _)
  clear hb14 b13
  rw [same_refl]
  clear hw
  go_wp2_with fail
  refine (sLivelyOf _ t _ ht).mono ?_
  rintro e w15 ⟨vz, rfl, hoz, hb15⟩
  replace hm := hm.keep hb15
  replace hl := hl.keep hb15
  replace ht := ht.keep hb15
  replace hx := hx.keep hb15
  replace hlv := Row.keep hlv hb15
  replace hr := hr.keep hb15
  have b15 := b14.trans (hb15.mono b14.size)
  clear hb15 b14
  have hz15 := (show Ints _ _ _ from hoz.row)
  clear hoz
  go_wp2_with fail
  refine (sameInts _ _ (livelyOf t) (livelyOf t) _ hlv hz15).mono ?_
  rintro e w16 ⟨rfl, hb16⟩
  replace hm := hm.keep (hb16.below _)
  replace hl := hl.keep (hb16.below _)
  replace ht := ht.keep (hb16.below _)
  replace hx := hx.keep (hb16.below _)
  replace hlv := Row.keep hlv (hb16.below _)
  replace hr := hr.keep (hb16.below _)
  have b16 := b15.trans (hb16.below _)
  clear hb16 b15
  rw [same_refl]
  clear hz15
  go_wp2_with fail
  refine (sArcsOf _ m _ hm).mono ?_
  rintro e w17 ⟨vz, rfl, hoz, hb17⟩
  replace hm := hm.keep hb17
  replace hl := hl.keep hb17
  replace ht := ht.keep hb17
  replace hx := hx.keep hb17
  replace hlv := Row.keep hlv hb17
  replace hr := hr.keep hb17
  have b17 := b16.trans (hb17.mono b16.size)
  clear hb17 b16
  have hz17 := hoz.mat
  clear hoz
  go_wp2_with fail
  refine (sameLists _ _ (arcsOf m) (arcsOf m) _ hr hz17).mono ?_
  rintro e w18 ⟨rfl, hb18⟩
  replace hm := hm.keep (hb18.below _)
  replace hl := hl.keep (hb18.below _)
  replace ht := ht.keep (hb18.below _)
  replace hx := hx.keep (hb18.below _)
  replace hlv := Row.keep hlv (hb18.below _)
  replace hr := hr.keep (hb18.below _)
  have b18 := b17.trans (hb18.below _)
  clear hb18 b17
  rw [same_refl]
  clear hz17
  go_wp2_with fail
  refine (iCountPaths _ m x _ hm).mono ?_
  rintro e w19 ⟨rfl, hb19⟩
  replace hm := hm.keep hb19
  replace hl := hl.keep hb19
  replace ht := ht.keep hb19
  replace hx := hx.keep hb19
  replace hlv := Row.keep hlv hb19
  replace hr := hr.keep hb19
  have b19 := b18.trans (hb19.mono b18.size)
  clear hb19 b18
  go_wp2_with fail
  refine (sCountPaths _ m x _ hm).mono ?_
  rintro e w20 ⟨rfl, hb20⟩
  replace hm := hm.keep hb20
  replace hl := hl.keep hb20
  replace ht := ht.keep hb20
  replace hx := hx.keep hb20
  replace hlv := Row.keep hlv hb20
  replace hr := hr.keep hb20
  have b20 := b19.trans (hb20.mono b19.size)
  clear hb20 b19
  obtain ⟨CP, hCP⟩ : ∃ c, countP m x = c := ⟨_, rfl⟩
  rw [hCP]
  have q9 := q6 CP
  go_wp2_with fail
  refine (iIsGraph _ m _ hm).mono ?_
  rintro e w21 ⟨rfl, rfl⟩
  go_wp2_with fail
  refine (sIsGraph _ m _ hm).mono ?_
  rintro e w22 ⟨rfl, rfl⟩
  obtain ⟨G, hG⟩ : ∃ b, isGr m = b := ⟨_, rfl⟩
  rw [hG]
  have q10 := q5 G
  go_wp2_with fail
  refine (iIsLively _ t _ ht).mono ?_
  rintro e w23 ⟨rfl, hb23⟩
  replace hm := hm.keep hb23
  replace hl := hl.keep hb23
  replace ht := ht.keep hb23
  replace hx := hx.keep hb23
  replace hlv := Row.keep hlv hb23
  replace hr := hr.keep hb23
  have b23 := b20.trans (hb23.mono b20.size)
  clear hb23 b20
  go_wp2_with fail
  refine (sIsLively _ t _ ht).mono ?_
  rintro e w24 ⟨rfl, hb24⟩
  replace hm := hm.keep hb24
  replace hl := hl.keep hb24
  replace ht := ht.keep hb24
  replace hx := hx.keep hb24
  replace hlv := Row.keep hlv hb24
  replace hr := hr.keep hb24
  have b24 := b23.trans (hb24.mono b23.size)
  clear hb24 b23
  obtain ⟨LT, hLT⟩ : ∃ b, isLively t = b := ⟨_, rfl⟩
  rw [hLT]
  have q11 := q5 LT
  clear q5 q6
  have HCP := Lib.hid hCP
  have HG := Lib.hid hG
  have HTB := Lib.hid hTB
  have HLT := Lib.hid hLT
  clear hCP hG hTB hLT
  obtain ⟨nt, hnt⟩ : ∃ k, t.length = k := ⟨_, rfl⟩
  obtain ⟨nx, hnx⟩ : ∃ k, (trimM t).length = k := ⟨_, rfl⟩
  obtain ⟨nv, hnv⟩ : ∃ k, (livelyOf t).length = k := ⟨_, rfl⟩
  obtain ⟨nr, hnr⟩ : ∃ k, (arcsOf m).length = k := ⟨_, rfl⟩
  rw [hnt] at ht ⊢
  rw [hnx] at hx ⊢
  rw [hnv] at hlv ⊢
  rw [hnr] at hr ⊢
  have HNT := Lib.hid hnt
  have HNX := Lib.hid hnx
  have HNV := Lib.hid hnv
  have HNR := Lib.hid hnr
  clear hnt hnx hnv hnr
  obtain ⟨a9, n9, c9, rfl, HL9, hn9, HC9⟩ := hl.open
  clear hl
  go_wp2
  go_loopw [15] (fun i wr => (∃ j : Nat, j ≤ n9 ∧ i = .int .i64 j) ∧ Below w24.heap.size w24 wr) (fun i _ => n9 - (intOf i).toNat)
  case atStart => exact ⟨⟨0, Nat.zero_le _, rfl⟩, Below.refl _ _⟩
  case round =>
    obtain ⟨⟨j, hj, rfl⟩, hd⟩ := hrel
    by_cases hlt : j < n9
    · obtain ⟨b, off, y, r, rfl, hc, HX, hy⟩ := HC9.out j hlt
      obtain ⟨ay, ny, cy, rfl, HLY, hny, -⟩ := hy.open
      have hc1 := cell_keep hd hc
      obtain ⟨hp1, hp2⟩ := HPK.out r (List.mem_of_getElem? HX.out)
      have HP1 := Lib.hid hp1
      have hnx2 : (ny : Int) = x := by rw [← hp2, HLY.out]
      have q12 : ((ny : Int) != x) = false := by rw [hnx2]; simp
      clear hp1 hp2 hnx2 hc
      go_wp2_with fail
      refine (iIsPath _ _ m r _ (hm.keep hd) (Row.keep hy hd)).mono ?_
      rintro e w60 ⟨rfl, hb6⟩
      rw [HP1.out]
      have hc6 := cell_keep hb6 hc1
      go_wp2
      go_roundw
      case rel => exact ⟨⟨j + 1, by omega, by go_num⟩, hd.trans (hb6.mono hd.size)⟩
      case measure => simp [intOf]; omega
    · have br := b24.trans (hd.mono b24.size)
      replace hm := hm.keep hd
      replace ht := ht.keep hd
      replace hx := hx.keep hd
      clear hd HC9 hlv hr
      obtain ⟨wa, hwa⟩ : ∃ wa, wr = wa := ⟨_, rfl⟩
      rw [hwa] at br hm ht hx ⊢
      clear hwa
      cases G
      · go_wp2_with fail
        refine (sIsGraph _ m _ hm).mono ?_
        rintro e w40 ⟨rfl, rfl⟩
        rw [HG.out]
        cases TB
        · have hz : nv = 0 := by rw [← HNV.out]; exact trimB_zero HTB.out
          subst hz
          go_wp2
          go_ret
          exact ⟨rfl, br⟩
        · have hxv : nx = nv := by rw [← HNX.out, ← HNV.out]; exact trim_len HTB.out
          subst hxv
          have hL1 : isLively (trimM t) = true := trim_lively HTB.out
          have q20 : (LT == ((nx : Int) == (nt : Int))) = true := beq_true_iff (by rw [← HLT.out, trim_same HTB.out, HNV.out, HNT.out]; simp [Int.ofNat_inj])
          have HL1 := Lib.hid hL1
          clear hL1
          go_wp2_with fail
          refine (iIsLively _ _ _ hx).mono ?_
          rintro e w50 ⟨rfl, hb50⟩
          rw [HL1.out]
          have b50 := br.trans (hb50.mono br.size)
          go_wp2_with fail
          refine (iIsLively _ _ _ (ht.keep hb50)).mono ?_
          rintro e w51 ⟨rfl, hb51⟩
          rw [HLT.out]
          go_wp2
          go_ret
          exact ⟨rfl, b50.trans (hb51.mono b50.size)⟩
      · have q13 : ((nr : Int) != sumOf m) = false := by rw [← HNR.out, arcs_sum HG.out]; simp
        obtain ⟨SM, hSM⟩ : ∃ s, sumOf m = s := ⟨_, rfl⟩
        rw [hSM] at q13
        have HSM := Lib.hid hSM
        clear hSM
        go_wp2_with fail
        refine (sIsGraph _ m _ hm).mono ?_
        rintro e w40 ⟨rfl, rfl⟩
        rw [HG.out]
        go_wp2_with fail
        refine (iSumOf _ m _ hm).mono ?_
        rintro e w41 ⟨rfl, rfl⟩
        rw [HSM.out]
        by_cases h1 : 1 ≤ x
        · by_cases h6 : x ≤ 6
          · go_wp2_with fail
            refine (iCountPaths _ m x _ hm).mono ?_
            rintro e w42 ⟨rfl, hb42⟩
            rw [HCP.out]
            have b42 := br.trans (hb42.mono br.size)
            replace hm := hm.keep hb42
            replace ht := ht.keep hb42
            replace hx := hx.keep hb42
            by_cases h0 : 0 ≤ CP
            · go_wp2_with fail
              refine (iCountPaths _ m x _ hm).mono ?_
              rintro e w43 ⟨rfl, hb43⟩
              rw [HCP.out]
              have b43 := b42.trans (hb43.mono b42.size)
              replace hm := hm.keep hb43
              replace ht := ht.keep hb43
              replace hx := hx.keep hb43
              by_cases h5 : CP ≤ 500
              · have hnC : (n9 : Int) = CP := by
                  have := HCT.out HG.out h1 h6 (by rw [HCP.out]; exact h0) (by rw [HCP.out]; exact h5)
                  rw [HCP.out, HL9.out] at this
                  exact this
                have q14 : ((n9 : Int) != CP) = false := by rw [hnC]; simp
                clear hnC
                go_wp2_with fail
                refine (iCountPaths _ m x _ hm).mono ?_
                rintro e w44 ⟨rfl, hb44⟩
                rw [HCP.out]
                have b44 := b43.trans (hb44.mono b43.size)
                replace hm := hm.keep hb44
                replace ht := ht.keep hb44
                replace hx := hx.keep hb44
                cases TB
                · have hz : nv = 0 := by rw [← HNV.out]; exact trimB_zero HTB.out
                  subst hz
                  go_wp2
                  go_ret
                  exact ⟨rfl, b44⟩
                · have hxv : nx = nv := by rw [← HNX.out, ← HNV.out]; exact trim_len HTB.out
                  subst hxv
                  have hL1 : isLively (trimM t) = true := trim_lively HTB.out
                  have q20 : (LT == ((nx : Int) == (nt : Int))) = true := beq_true_iff (by rw [← HLT.out, trim_same HTB.out, HNV.out, HNT.out]; simp [Int.ofNat_inj])
                  have HL1 := Lib.hid hL1
                  clear hL1
                  go_wp2_with fail
                  refine (iIsLively _ _ _ hx).mono ?_
                  rintro e w50 ⟨rfl, hb50⟩
                  rw [HL1.out]
                  have b50 := b44.trans (hb50.mono b44.size)
                  go_wp2_with fail
                  refine (iIsLively _ _ _ (ht.keep hb50)).mono ?_
                  rintro e w51 ⟨rfl, hb51⟩
                  rw [HLT.out]
                  go_wp2
                  go_ret
                  exact ⟨rfl, b50.trans (hb51.mono b50.size)⟩
              ·
                cases TB
                · have hz : nv = 0 := by rw [← HNV.out]; exact trimB_zero HTB.out
                  subst hz
                  go_wp2
                  go_ret
                  exact ⟨rfl, b43⟩
                · have hxv : nx = nv := by rw [← HNX.out, ← HNV.out]; exact trim_len HTB.out
                  subst hxv
                  have hL1 : isLively (trimM t) = true := trim_lively HTB.out
                  have q20 : (LT == ((nx : Int) == (nt : Int))) = true := beq_true_iff (by rw [← HLT.out, trim_same HTB.out, HNV.out, HNT.out]; simp [Int.ofNat_inj])
                  have HL1 := Lib.hid hL1
                  clear hL1
                  go_wp2_with fail
                  refine (iIsLively _ _ _ hx).mono ?_
                  rintro e w50 ⟨rfl, hb50⟩
                  rw [HL1.out]
                  have b50 := b43.trans (hb50.mono b43.size)
                  go_wp2_with fail
                  refine (iIsLively _ _ _ (ht.keep hb50)).mono ?_
                  rintro e w51 ⟨rfl, hb51⟩
                  rw [HLT.out]
                  go_wp2
                  go_ret
                  exact ⟨rfl, b50.trans (hb51.mono b50.size)⟩
            ·
              cases TB
              · have hz : nv = 0 := by rw [← HNV.out]; exact trimB_zero HTB.out
                subst hz
                go_wp2
                go_ret
                exact ⟨rfl, b42⟩
              · have hxv : nx = nv := by rw [← HNX.out, ← HNV.out]; exact trim_len HTB.out
                subst hxv
                have hL1 : isLively (trimM t) = true := trim_lively HTB.out
                have q20 : (LT == ((nx : Int) == (nt : Int))) = true := beq_true_iff (by rw [← HLT.out, trim_same HTB.out, HNV.out, HNT.out]; simp [Int.ofNat_inj])
                have HL1 := Lib.hid hL1
                clear hL1
                go_wp2_with fail
                refine (iIsLively _ _ _ hx).mono ?_
                rintro e w50 ⟨rfl, hb50⟩
                rw [HL1.out]
                have b50 := b42.trans (hb50.mono b42.size)
                go_wp2_with fail
                refine (iIsLively _ _ _ (ht.keep hb50)).mono ?_
                rintro e w51 ⟨rfl, hb51⟩
                rw [HLT.out]
                go_wp2
                go_ret
                exact ⟨rfl, b50.trans (hb51.mono b50.size)⟩
          ·
            cases TB
            · have hz : nv = 0 := by rw [← HNV.out]; exact trimB_zero HTB.out
              subst hz
              go_wp2
              go_ret
              exact ⟨rfl, br⟩
            · have hxv : nx = nv := by rw [← HNX.out, ← HNV.out]; exact trim_len HTB.out
              subst hxv
              have hL1 : isLively (trimM t) = true := trim_lively HTB.out
              have q20 : (LT == ((nx : Int) == (nt : Int))) = true := beq_true_iff (by rw [← HLT.out, trim_same HTB.out, HNV.out, HNT.out]; simp [Int.ofNat_inj])
              have HL1 := Lib.hid hL1
              clear hL1
              go_wp2_with fail
              refine (iIsLively _ _ _ hx).mono ?_
              rintro e w50 ⟨rfl, hb50⟩
              rw [HL1.out]
              have b50 := br.trans (hb50.mono br.size)
              go_wp2_with fail
              refine (iIsLively _ _ _ (ht.keep hb50)).mono ?_
              rintro e w51 ⟨rfl, hb51⟩
              rw [HLT.out]
              go_wp2
              go_ret
              exact ⟨rfl, b50.trans (hb51.mono b50.size)⟩
        ·
          cases TB
          · have hz : nv = 0 := by rw [← HNV.out]; exact trimB_zero HTB.out
            subst hz
            go_wp2
            go_ret
            exact ⟨rfl, br⟩
          · have hxv : nx = nv := by rw [← HNX.out, ← HNV.out]; exact trim_len HTB.out
            subst hxv
            have hL1 : isLively (trimM t) = true := trim_lively HTB.out
            have q20 : (LT == ((nx : Int) == (nt : Int))) = true := beq_true_iff (by rw [← HLT.out, trim_same HTB.out, HNV.out, HNT.out]; simp [Int.ofNat_inj])
            have HL1 := Lib.hid hL1
            clear hL1
            go_wp2_with fail
            refine (iIsLively _ _ _ hx).mono ?_
            rintro e w50 ⟨rfl, hb50⟩
            rw [HL1.out]
            have b50 := br.trans (hb50.mono br.size)
            go_wp2_with fail
            refine (iIsLively _ _ _ (ht.keep hb50)).mono ?_
            rintro e w51 ⟨rfl, hb51⟩
            rw [HLT.out]
            go_wp2
            go_ret
            exact ⟨rfl, b50.trans (hb51.mono b50.size)⟩
set_option maxRecDepth 100000 in
theorem fnGraphs_lifted (os : Os) (started : os.Started) (H : Type) (enc : TypeId × Value → H) :
    ReturnsInHanded {} Try.checked os 3 .any (Rows.fnGraphsSpec.pre6 enc Try.prog Try.f3 Rows.fnGraphsRow.domain false) (Rows.fnGraphsSpec.post enc Try.prog Try.f3 false true false false) := by
  refine lifted_law started (by kernel_rfl) Try.func3
    (ChangeSpec.witness6 (enc := enc) (C := Try.checked) false ⟨#[], #[.slice none 0 0], []⟩ 8 (by kernel_rfl) (by kernel_rfl) (by kernel_rfl) (by kernel_rfl))
    rfl (by kernel_rfl) (by kernel_rfl) ?_ ?_
  · intro ds hl
    match ds, hl with
    | [d0], _ => rfl
  · intro W base args ds p hval hA
    rw [Try.params3] at hval hA
    obtain ⟨v0, vs0, d0, ds0, p0, q0, hargs, rfl, rfl, h0, r0⟩ := trodAll_cons hA
    obtain ⟨rfl, rfl, rfl⟩ := trodAll_nil r0
    obtain rfl : args = #[v0] := by cases args; simp_all
    obtain ⟨a0, n0, c0, rfl⟩ := okWide_slice Try.underlying22 (hval 0 22 v0 rfl rfl)
    obtain ⟨m0, hm0⟩ : ∃ l, BytesV W (.slice a0 n0 c0) l := by obtain ⟨fu, hf⟩ := h0; exact bytes_of_trod Try.underlying22 Try.underlying5 (by kernel_rfl) rfl hf
    exact lawGraphs W _ m0 hm0

set_option maxRecDepth 100000 in
theorem fnGraphs_holds : Rows.FnGraphsSaid :=
  OpenClaim.holds_of_wide 3 Try.f3 rfl rfl rfl rfl rfl rfl rfl ⟨rfl, rfl, rfl, rfl, rfl⟩ rfl rfl rfl rfl rfl (by kernel_rfl) Try.func3 (by kernel_rfl)
    (of_decide_eq_true (by kernel_rfl)) (by unfold Func.isWrapper; first | (rw [if_pos (by decide +kernel)]; kernel_rfl) | (rw [if_neg (by decide +kernel)]; exact ⟨rfl, rfl⟩))
    (fun os started H enc _ => fnGraphs_lifted os started H enc)

end Go.Proofs.Ytenjakgahniijaa
