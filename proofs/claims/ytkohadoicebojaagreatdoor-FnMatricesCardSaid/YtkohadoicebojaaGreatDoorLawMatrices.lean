/- FnMatrices returns true for every input and leaves its argument as it was. No conditions. -/
import Derived.Test.YtkohadoicebojaaGreatDoorDrawT
import Derived.Test.YtkohadoicebojaaGreatDoorMulP
import Derived.Test.YtkohadoicebojaaGreatDoorTextP
import Derived.Test.YtkohadoicebojaaGreatDoorParseS
import Derived.Test.YtkohadoicebojaaGreatDoorSame
import Derived.Test.YtkohadoicebojaaGreatDoorFrameB
import Derived.Test.YtkohadoicebojaaGreatDoorFrameD
namespace Go.Proofs.YtkohadoicebojaaGreatDoor
open Go.RowKit Go.Deep Go.ChangeShapes Go.WideShapes Go.ChangeAt
theorem ev_of_laid4 {W : World} {d1 d2 d3 d4 e1 e2 : DataW Unit} {n1 n2 n3 n4 s1 s2 : String} {rest : List (String × DataW Unit)} (h : laidMet Tryz.prog ((n1, d1) :: (n2, d2) :: (n3, d3) :: (n4, d4) :: ("strconv.ErrRange", .iface s1 e1) :: ("strconv.ErrSyntax", .iface s2 e2) :: rest) W) : Ev W := by
  obtain ⟨ps, ⟨g0, t0, cs0, f0, p0, q0, _, _, _, _, ⟨g1, t1, cs1, f1, p1, q1, _, _, _, _, ⟨g2, t2, cs2, f2, p2, q2, _, _, _, _, ⟨g3, t3, cs3, f3, p3, q3, _, _, _, _, ⟨g, t, cs, fuel, p, q, hg, ht, hv, hd, ⟨g', t', cs', fuel', p', q', hg', ht', hv', hd', _⟩, _⟩, _⟩, _⟩, _⟩, _⟩, _⟩ := h
  obtain rfl := Option.some.inj (gRng.symm.trans hg)
  obtain rfl := Option.some.inj (gSyn.symm.trans hg')
  obtain rfl := Option.some.inj ((show (Tryz.prog.globals[4]?).map (·.type) = some 105 by kernel_rfl).symm.trans ht)
  obtain rfl := Option.some.inj ((show (Tryz.prog.globals[3]?).map (·.type) = some 105 by kernel_rfl).symm.trans ht')
  obtain ⟨_, u, v, hcs, _⟩ := iface_of_trod Tryz.underlying105 hd
  obtain ⟨_, u', v', hcs', _⟩ := iface_of_trod Tryz.underlying105 hd'
  refine ⟨⟨u', v', ?_⟩, ⟨u, v, ?_⟩⟩
  · have := World.var?_cell hg' hv' 0
    rw [arr_one hcs'] at this
    simpa using this
  · have := World.var?_cell hg hv 0
    rw [arr_one hcs] at this
    simpa using this
set_option maxRecDepth 10000 in
set_option maxHeartbeats 3200000 in
theorem lawMatrices (w : World) (hsh : w.ShapedOpen Tryz.prog) (hl : laidMetH Tryz.prog Rows.fnMatricesRow.laid w) (v : Value) (l : List UInt8) (hv : BytesV w v l) :
    Calls Tryz.prog 3 #[v] w fun e w' => e = .returned (.bool true) ∧ Below w.heap.size w w' := by
  rw [MakeChecks.laidMetH_plain _ _ _ (by kernel_rfl)] at hl
  have hTb : Tb w := tb_of_laid hl
  have hEv : Ev w := ev_of_laid4 hl
  have hMl : Ml w := Tryz.laysM146.s1_3 w hsh
  clear hl hsh
  by_cases hbig : 1048576 < (l.length : Int)
  · have hd : decide (1048576 < (l.length : Int)) = true := decide_eq_true hbig
    go_enter Tryz.func3, Tryz.ntmps3
    go_wp2_with fail
    refine (bigC v l _ hv).mono ?_
    rintro e w1 ⟨rfl, rfl⟩
    rw [hd]
    go_wp2
    go_ret
    exact ⟨rfl, Below.refl _ _⟩
  have hd : decide (1048576 < (l.length : Int)) = false := decide_eq_false hbig
  clear hbig
  go_enter Tryz.func3, Tryz.ntmps3
  go_wp2_with fail
  refine (bigC v l _ hv).mono ?_
  rintro e w1 ⟨rfl, rfl⟩
  rw [hd]
  clear hd
  go_wp2_with fail
  refine (dMul v l _ hv).mono ?_
  rintro e w2 ⟨va, vb, a, b, rfl, ho1, ho2, hb2⟩
  replace hv := bytesKeep hv hb2
  replace hTb := hTb.keep hb2
  replace hEv := hEv.keep hb2
  replace hMl := hMl.keep hb2
  have b2 : Below w.heap.size w _ := hb2
  clear hb2
  have ha := ho1.mat
  obtain ⟨a1, c1, rfl⟩ := ho1.form
  clear ho1
  have hb := ho2.mat
  obtain ⟨a2, c2, rfl⟩ := ho2.form
  clear ho2
  go_wp2_with fail
  refine (iMultiplyMatrices _ _ a b _ ha hb).mono ?_
  rintro e w3 ⟨v3, rfl, ho3, hb3⟩
  replace hv := bytesKeep hv hb3
  replace hTb := hTb.keep hb3
  replace hEv := hEv.keep hb3
  replace hMl := hMl.keep hb3
  replace ha := ha.keep hb3
  replace hb := hb.keep hb3
  have b3 := b2.trans (hb3.mono b2.size)
  clear hb3 b2
  have hp := ho3.mat
  obtain ⟨a3, c3, rfl⟩ := ho3.form
  clear ho3
  go_wp2_with fail
  refine (sMultiplyMatrices _ _ a b _ ha hb).mono ?_
  rintro e w4 ⟨v4, rfl, ho4, hb4⟩
  replace hv := bytesKeep hv hb4
  replace hTb := hTb.keep hb4
  replace hEv := hEv.keep hb4
  replace hMl := hMl.keep hb4
  replace ha := ha.keep hb4
  replace hb := hb.keep hb4
  replace hp := hp.keep hb4
  have b4 := b3.trans (hb4.mono b3.size)
  clear hb4 b3
  have hwt := ho4.mat
  obtain ⟨a4, c4, rfl⟩ := ho4.form
  clear ho4
  go_wp2_with fail
  refine (dPower v l _ hv).mono ?_
  rintro e w5 ⟨v5, m, x, rfl, ho5, hx0, hx1, hb5⟩
  replace hv := bytesKeep hv hb5
  replace hTb := hTb.keep hb5
  replace hEv := hEv.keep hb5
  replace hMl := hMl.keep hb5
  replace ha := ha.keep hb5
  replace hb := hb.keep hb5
  replace hp := hp.keep hb5
  replace hwt := hwt.keep hb5
  have b5 := b4.trans (hb5.mono b4.size)
  clear hb5 b4
  have hm := ho5.mat
  obtain ⟨a5, c5, rfl⟩ := ho5.form
  clear ho5
  go_wp2_with fail
  refine (iPowerMatrix _ m x _ hm).mono ?_
  rintro e w6 ⟨v6, rfl, ho6, hb6⟩
  replace hv := bytesKeep hv hb6
  replace hTb := hTb.keep hb6
  replace hEv := hEv.keep hb6
  replace hMl := hMl.keep hb6
  replace ha := ha.keep hb6
  replace hb := hb.keep hb6
  replace hp := hp.keep hb6
  replace hwt := hwt.keep hb6
  replace hm := hm.keep hb6
  have b6 := b5.trans (hb6.mono b5.size)
  clear hb6 b5
  have hx := ho6.mat
  obtain ⟨a6, c6, rfl⟩ := ho6.form
  clear ho6
  go_wp2_with fail
  refine (sPowerMatrix _ m x _ hm).mono ?_
  rintro e w7 ⟨v7, rfl, ho7, hb7⟩
  replace hv := bytesKeep hv hb7
  replace hTb := hTb.keep hb7
  replace hEv := hEv.keep hb7
  replace hMl := hMl.keep hb7
  replace ha := ha.keep hb7
  replace hb := hb.keep hb7
  replace hp := hp.keep hb7
  replace hwt := hwt.keep hb7
  replace hm := hm.keep hb7
  replace hx := hx.keep hb7
  have b7 := b6.trans (hb7.mono b6.size)
  clear hb7 b6
  have hy := ho7.mat
  obtain ⟨a7, c7, rfl⟩ := ho7.form
  clear ho7
  go_wp2_with fail
  refine (dParse v l _ hv).mono ?_
  rintro e w8 ⟨t, rfl, htz, hb8⟩
  replace hv := bytesKeep hv hb8
  replace hTb := hTb.keep hb8
  replace hEv := hEv.keep hb8
  replace hMl := hMl.keep hb8
  replace ha := ha.keep hb8
  replace hb := hb.keep hb8
  replace hp := hp.keep hb8
  replace hwt := hwt.keep hb8
  replace hm := hm.keep hb8
  replace hx := hx.keep hb8
  replace hy := hy.keep hb8
  have b8 := b7.trans (hb8.mono b7.size)
  clear hb8 b7
  clear hv
  go_wp2_with fail
  refine (iParseMatrix t _ (by omega) hMl hTb hEv).mono ?_
  rintro e w9 ⟨v8, tm, tb, rfl, ho8, HR8, hb9⟩
  replace hTb := hTb.keep hb9
  replace hEv := hEv.keep hb9
  replace hMl := hMl.keep hb9
  replace ha := ha.keep hb9
  replace hb := hb.keep hb9
  replace hp := hp.keep hb9
  replace hwt := hwt.keep hb9
  replace hm := hm.keep hb9
  replace hx := hx.keep hb9
  replace hy := hy.keep hb9
  have b9 := b8.trans (hb9.mono b8.size)
  clear hb9 b8
  have hc := ho8.mat
  obtain ⟨a8, c8, rfl⟩ := ho8.form
  clear ho8
  go_wp2_with fail
  refine (sParseMatrix t _ (by omega)).mono ?_
  rintro e w10 ⟨v9, tm2, tb2, rfl, ho9, HR9, hb10⟩
  replace hTb := hTb.keep hb10
  replace hEv := hEv.keep hb10
  replace hMl := hMl.keep hb10
  replace ha := ha.keep hb10
  replace hb := hb.keep hb10
  replace hp := hp.keep hb10
  replace hwt := hwt.keep hb10
  replace hm := hm.keep hb10
  replace hx := hx.keep hb10
  replace hy := hy.keep hb10
  replace hc := hc.keep hb10
  have b10 := b9.trans (hb10.mono b9.size)
  clear hb10 b9
  obtain ⟨rfl, rfl⟩ := MatR.eq HR8.out HR9.out
  clear HR8 HR9
  have hdd := ho9.mat
  obtain ⟨a9, c9, rfl⟩ := ho9.form
  clear ho9
  have q5 : ∀ b : Bool, (b != b) = false := fun b => by simp
  have q6 : ∀ b : Int, (b != b) = false := fun b => by simp
  obtain ⟨OK, hOK⟩ : ∃ ok, mulOk a b = ok := ⟨_, rfl⟩
  rw [hOK]
  have HOK := Lib.hid hOK
  clear hOK
  have q10 := q5 OK
  obtain ⟨ON, hON⟩ : ∃ b, powB m x = b := ⟨_, rfl⟩
  rw [hON]
  have HON := Lib.hid hON
  clear hON
  have q11 := q5 ON
  have q12 := q5 tb
  go_wp2_with fail
  refine (sameLists _ _ (mulM a b) (mulM a b) _ hp hwt).mono ?_
  rintro e w11 ⟨rfl, hb11⟩
  replace hTb := hTb.keep (hb11.below _)
  replace hEv := hEv.keep (hb11.below _)
  replace hMl := hMl.keep (hb11.below _)
  replace ha := ha.keep (hb11.below _)
  replace hb := hb.keep (hb11.below _)
  replace hp := hp.keep (hb11.below _)
  replace hwt := hwt.keep (hb11.below _)
  replace hm := hm.keep (hb11.below _)
  replace hx := hx.keep (hb11.below _)
  replace hy := hy.keep (hb11.below _)
  replace hc := hc.keep (hb11.below _)
  replace hdd := hdd.keep (hb11.below _)
  have b11 := b10.trans (hb11.below _)
  clear hb11 b10
  rw [same_refl]
  clear hwt
  go_wp2_with fail
  refine (sameLists _ _ (powM m x) (powM m x) _ hx hy).mono ?_
  rintro e w12 ⟨rfl, hb12⟩
  replace hTb := hTb.keep (hb12.below _)
  replace hEv := hEv.keep (hb12.below _)
  replace hMl := hMl.keep (hb12.below _)
  replace ha := ha.keep (hb12.below _)
  replace hb := hb.keep (hb12.below _)
  replace hp := hp.keep (hb12.below _)
  replace hm := hm.keep (hb12.below _)
  replace hx := hx.keep (hb12.below _)
  replace hy := hy.keep (hb12.below _)
  replace hc := hc.keep (hb12.below _)
  replace hdd := hdd.keep (hb12.below _)
  have b12 := b11.trans (hb12.below _)
  clear hb12 b11
  rw [same_refl]
  clear hy
  go_wp2_with fail
  refine (sameLists _ _ tm tm _ hc hdd).mono ?_
  rintro e w13 ⟨rfl, hb13⟩
  replace hTb := hTb.keep (hb13.below _)
  replace hEv := hEv.keep (hb13.below _)
  replace hMl := hMl.keep (hb13.below _)
  replace ha := ha.keep (hb13.below _)
  replace hb := hb.keep (hb13.below _)
  replace hp := hp.keep (hb13.below _)
  replace hm := hm.keep (hb13.below _)
  replace hx := hx.keep (hb13.below _)
  replace hc := hc.keep (hb13.below _)
  replace hdd := hdd.keep (hb13.below _)
  have b13 := b12.trans (hb13.below _)
  clear hb13 b12
  rw [same_refl]
  clear hc hdd
  obtain ⟨IM, hIM⟩ : ∃ b, isMat a = b := ⟨_, rfl⟩
  have HIM := Lib.hid hIM
  clear hIM
  have q13 := q5 IM
  go_wp2_with fail
  refine (iIsMatrix _ a _ ha).mono ?_
  rintro e w14 ⟨rfl, rfl⟩
  rw [HIM.out]
  go_wp2_with fail
  refine (sIsMatrix _ a _ ha).mono ?_
  rintro e w15 ⟨rfl, rfl⟩
  rw [HIM.out]
  have q14 := q6 (traceOf a)
  have q15 := q6 (sumOf a)
  go_wp2_with fail
  refine (iTraceOf _ a _ ha).mono ?_
  rintro e w16 ⟨rfl, rfl⟩
  go_wp2_with fail
  refine (sTraceOf _ a _ ha).mono ?_
  rintro e w17 ⟨rfl, rfl⟩
  go_wp2_with fail
  refine (iSumOf _ a _ ha).mono ?_
  rintro e w18 ⟨rfl, rfl⟩
  go_wp2_with fail
  refine (sSumOf _ a _ ha).mono ?_
  rintro e w19 ⟨rfl, rfl⟩
  go_wp2_with fail
  refine (iTurnMatrix _ a _ ha).mono ?_
  rintro e w20 ⟨vz, rfl, hoz, hb20⟩
  replace hTb := hTb.keep hb20
  replace hEv := hEv.keep hb20
  replace hMl := hMl.keep hb20
  replace ha := ha.keep hb20
  replace hb := hb.keep hb20
  replace hp := hp.keep hb20
  replace hm := hm.keep hb20
  replace hx := hx.keep hb20
  have b20 := b13.trans (hb20.mono b13.size)
  clear hb20 b13
  have hz1 := hoz.mat
  clear hoz
  go_wp2_with fail
  refine (sTurnMatrix _ a _ ha).mono ?_
  rintro e w21 ⟨vz2, rfl, hoz, hb21⟩
  replace hTb := hTb.keep hb21
  replace hEv := hEv.keep hb21
  replace hMl := hMl.keep hb21
  replace ha := ha.keep hb21
  replace hb := hb.keep hb21
  replace hp := hp.keep hb21
  replace hm := hm.keep hb21
  replace hx := hx.keep hb21
  replace hz1 := hz1.keep hb21
  have b21 := b20.trans (hb21.mono b20.size)
  clear hb21 b20
  have hz2 := hoz.mat
  clear hoz
  go_wp2_with fail
  refine (sameLists _ _ (turnM a) (turnM a) _ hz1 hz2).mono ?_
  rintro e w22 ⟨rfl, hb22⟩
  replace hTb := hTb.keep (hb22.below _)
  replace hEv := hEv.keep (hb22.below _)
  replace hMl := hMl.keep (hb22.below _)
  replace ha := ha.keep (hb22.below _)
  replace hb := hb.keep (hb22.below _)
  replace hp := hp.keep (hb22.below _)
  replace hm := hm.keep (hb22.below _)
  replace hx := hx.keep (hb22.below _)
  replace hz1 := hz1.keep (hb22.below _)
  have b22 := b21.trans (hb22.below _)
  clear hb22 b21
  rw [same_refl]
  clear hz1 hz2
  have q16 := q5 (same a b)
  go_wp2_with fail
  refine (iEqualMatrix _ _ a b _ ha hb).mono ?_
  rintro e w23 ⟨rfl, hb23⟩
  replace hTb := hTb.keep (hb23.below _)
  replace hEv := hEv.keep (hb23.below _)
  replace hMl := hMl.keep (hb23.below _)
  replace ha := ha.keep (hb23.below _)
  replace hb := hb.keep (hb23.below _)
  replace hp := hp.keep (hb23.below _)
  replace hm := hm.keep (hb23.below _)
  replace hx := hx.keep (hb23.below _)
  have b23 := b22.trans (hb23.below _)
  clear hb23 b22
  go_wp2_with fail
  refine (sameLists _ _ a b _ ha hb).mono ?_
  rintro e w24 ⟨rfl, hb24⟩
  replace hTb := hTb.keep (hb24.below _)
  replace hEv := hEv.keep (hb24.below _)
  replace hMl := hMl.keep (hb24.below _)
  replace ha := ha.keep (hb24.below _)
  replace hb := hb.keep (hb24.below _)
  replace hp := hp.keep (hb24.below _)
  replace hm := hm.keep (hb24.below _)
  replace hx := hx.keep (hb24.below _)
  have b24 := b23.trans (hb24.below _)
  clear hb24 b23
  have hTZ := matT_size a
  have HBK := Lib.hid (fun m b (h : MatR (matT a) m b) => matT_back h)
  obtain ⟨T, hT⟩ : ∃ T, matT a = T := ⟨_, rfl⟩
  rw [hT] at hTZ HBK
  have HT := Lib.hid hT
  clear hT
  go_wp2_with fail
  refine (iMatrixText _ a _ ha hTb).mono ?_
  rintro e w25 ⟨rfl, hb25⟩
  replace hTb := hTb.keep hb25
  replace hEv := hEv.keep hb25
  replace hMl := hMl.keep hb25
  replace ha := ha.keep hb25
  replace hb := hb.keep hb25
  replace hp := hp.keep hb25
  replace hm := hm.keep hb25
  replace hx := hx.keep hb25
  have b25 := b24.trans (hb25.mono b24.size)
  clear hb25 b24
  rw [HT.out]
  go_wp2_with fail
  refine (iParseMatrix T _ (by omega) hMl hTb hEv).mono ?_
  rintro e w26 ⟨v20, zm, bk, rfl, ho20, HR20, hb26⟩
  replace hTb := hTb.keep hb26
  replace hEv := hEv.keep hb26
  replace hMl := hMl.keep hb26
  replace ha := ha.keep hb26
  replace hb := hb.keep hb26
  replace hp := hp.keep hb26
  replace hm := hm.keep hb26
  replace hx := hx.keep hb26
  have b26 := b25.trans (hb26.mono b25.size)
  clear hb26 b25
  obtain ⟨hbk, hzm⟩ := HBK.out _ _ HR20.out
  rw [HIM.out] at hbk hzm
  subst hbk
  have HZM := Lib.hid hzm
  clear hzm HR20 HBK
  have hzz := ho20.mat
  obtain ⟨a20, c20, rfl⟩ := ho20.form
  clear ho20
  obtain ⟨nz, hnz⟩ : ∃ k, zm.length = k := ⟨_, rfl⟩
  rw [hnz] at hzz ⊢
  clear hnz
  have q17 := bne_self_toList T
  go_wp2_with fail
  refine (sMatrixText _ a _ ha).mono ?_
  rintro e w27 ⟨rfl, hb27⟩
  replace hTb := hTb.keep hb27
  replace hEv := hEv.keep hb27
  replace hMl := hMl.keep hb27
  replace ha := ha.keep hb27
  replace hb := hb.keep hb27
  replace hp := hp.keep hb27
  replace hm := hm.keep hb27
  replace hx := hx.keep hb27
  replace hzz := hzz.keep hb27
  have b27 := b26.trans (hb27.mono b26.size)
  clear hb27 b26
  rw [HT.out]
  go_wp2_with fail
  refine (sIsMatrix _ a _ ha).mono ?_
  rintro e w28 ⟨rfl, rfl⟩
  rw [HIM.out]
  clear q5 q6 q10 q11 q12
  cases bk
  · cases ON
    · cases OK
      · go_wp2
        go_ret
        exact ⟨rfl, b27⟩
      · obtain ⟨t1, t2⟩ := mul_turn HOK.out
        have HT1 := Lib.hid t1
        have HT2 := Lib.hid t2
        clear t1 t2
        go_wp2_with fail
        refine (iTurnMatrix _ b _ hb).mono ?_
        rintro e w29 ⟨v31, rfl, ho31, hb29⟩
        replace hTb := hTb.keep hb29
        replace hEv := hEv.keep hb29
        replace hMl := hMl.keep hb29
        replace ha := ha.keep hb29
        replace hb := hb.keep hb29
        replace hp := hp.keep hb29
        replace hm := hm.keep hb29
        replace hx := hx.keep hb29
        replace hzz := hzz.keep hb29
        have b29 := b27.trans (hb29.mono b27.size)
        clear hb29 b27
        have h31 := ho31.mat
        clear ho31
        go_wp2_with fail
        refine (iTurnMatrix _ a _ ha).mono ?_
        rintro e w30 ⟨v32, rfl, ho32, hb30⟩
        replace hTb := hTb.keep hb30
        replace hEv := hEv.keep hb30
        replace hMl := hMl.keep hb30
        replace ha := ha.keep hb30
        replace hb := hb.keep hb30
        replace hp := hp.keep hb30
        replace hm := hm.keep hb30
        replace hx := hx.keep hb30
        replace hzz := hzz.keep hb30
        replace h31 := h31.keep hb30
        have b30 := b29.trans (hb30.mono b29.size)
        clear hb30 b29
        have h32 := ho32.mat
        clear ho32
        go_wp2_with fail
        refine (iMultiplyMatrices _ _ _ _ _ h31 h32).mono ?_
        rintro e w31 ⟨v33, rfl, ho33, hb31⟩
        replace hTb := hTb.keep hb31
        replace hEv := hEv.keep hb31
        replace hMl := hMl.keep hb31
        replace ha := ha.keep hb31
        replace hb := hb.keep hb31
        replace hp := hp.keep hb31
        replace hm := hm.keep hb31
        replace hx := hx.keep hb31
        replace hzz := hzz.keep hb31
        replace h31 := h31.keep hb31
        replace h32 := h32.keep hb31
        have b31 := b30.trans (hb31.mono b30.size)
        clear hb31 b30
        rw [HT1.out]
        have h33 := ho33.mat
        rw [HT2.out] at h33
        obtain ⟨a33, c33, rfl⟩ := ho33.form
        clear ho33
        go_wp2_with fail
        refine (iMultiplyMatrices _ _ _ _ _ hb ha).mono ?_
        rintro e w32 ⟨v34, rfl, ho34, hb32⟩
        replace hTb := hTb.keep hb32
        replace hEv := hEv.keep hb32
        replace hMl := hMl.keep hb32
        replace ha := ha.keep hb32
        replace hb := hb.keep hb32
        replace hp := hp.keep hb32
        replace hm := hm.keep hb32
        replace hx := hx.keep hb32
        replace hzz := hzz.keep hb32
        replace h31 := h31.keep hb32
        replace h32 := h32.keep hb32
        replace h33 := h33.keep hb32
        have b32 := b31.trans (hb32.mono b31.size)
        clear hb32 b31
        have h34 := ho34.mat
        obtain ⟨a34, c34, rfl⟩ := ho34.form
        clear ho34
        go_wp2_with fail
        refine (iTurnMatrix _ _ _ hp).mono ?_
        rintro e w33 ⟨v35, rfl, ho35, hb33⟩
        replace hTb := hTb.keep hb33
        replace hEv := hEv.keep hb33
        replace hMl := hMl.keep hb33
        replace ha := ha.keep hb33
        replace hb := hb.keep hb33
        replace hp := hp.keep hb33
        replace hm := hm.keep hb33
        replace hx := hx.keep hb33
        replace hzz := hzz.keep hb33
        replace h31 := h31.keep hb33
        replace h32 := h32.keep hb33
        replace h33 := h33.keep hb33
        replace h34 := h34.keep hb33
        have b33 := b32.trans (hb33.mono b32.size)
        clear hb33 b32
        have h35 := ho35.mat
        clear ho35
        go_wp2_with fail
        refine (sameLists _ _ (turnM (mulM a b)) (turnM (mulM a b)) _ h33 h35).mono ?_
        rintro e w34 ⟨rfl, hb34⟩
        replace hTb := hTb.keep (hb34.below _)
        replace hEv := hEv.keep (hb34.below _)
        replace hMl := hMl.keep (hb34.below _)
        replace ha := ha.keep (hb34.below _)
        replace hb := hb.keep (hb34.below _)
        replace hp := hp.keep (hb34.below _)
        replace hm := hm.keep (hb34.below _)
        replace hx := hx.keep (hb34.below _)
        replace hzz := hzz.keep (hb34.below _)
        replace h31 := h31.keep (hb34.below _)
        replace h32 := h32.keep (hb34.below _)
        replace h33 := h33.keep (hb34.below _)
        replace h34 := h34.keep (hb34.below _)
        replace h35 := h35.keep (hb34.below _)
        have b34 := b33.trans (hb34.below _)
        clear hb34 b33
        rw [same_refl]
        cases hF : mulOk b a
        · go_wp2
          go_ret
          exact ⟨rfl, b34⟩
        · have HTE := Lib.hid (mul_trace HOK.out hF)
          clear hF
          go_wp2_with fail
          refine (iTraceOf _ _ _ h34).mono ?_
          rintro e w35 ⟨rfl, rfl⟩
          rw [HTE.out]
          go_wp2_with fail
          refine (iTraceOf _ _ _ hp).mono ?_
          rintro e w36 ⟨rfl, rfl⟩
          have q40 : (traceOf (mulM a b) == traceOf (mulM a b)) = true := beq_self_eq_true _
          go_wp2
          go_ret
          exact ⟨rfl, b34⟩
    · by_cases hxp : 0 < x
      · obtain ⟨p1, p2⟩ := pow_before HON.out hxp
        have HP1 := Lib.hid p1
        have HP2 := Lib.hid p2
        clear p1 p2
        go_wp2_with fail
        refine (sPowerMatrix _ m (x - 1) _ hm).mono ?_
        rintro e w29 ⟨v41, rfl, ho41, hb29⟩
        replace hTb := hTb.keep hb29
        replace hEv := hEv.keep hb29
        replace hMl := hMl.keep hb29
        replace ha := ha.keep hb29
        replace hb := hb.keep hb29
        replace hp := hp.keep hb29
        replace hm := hm.keep hb29
        replace hx := hx.keep hb29
        replace hzz := hzz.keep hb29
        have b29 := b27.trans (hb29.mono b27.size)
        clear hb29 b27
        have h41 := ho41.mat
        obtain ⟨a41, c41, rfl⟩ := ho41.form
        clear ho41
        go_wp2_with fail
        refine (iMultiplyMatrices _ _ _ _ _ hm h41).mono ?_
        rintro e w30 ⟨v42, rfl, ho42, hb30⟩
        replace hTb := hTb.keep hb30
        replace hEv := hEv.keep hb30
        replace hMl := hMl.keep hb30
        replace ha := ha.keep hb30
        replace hb := hb.keep hb30
        replace hp := hp.keep hb30
        replace hm := hm.keep hb30
        replace hx := hx.keep hb30
        replace hzz := hzz.keep hb30
        replace h41 := h41.keep hb30
        have b30 := b29.trans (hb30.mono b29.size)
        clear hb30 b29
        rw [HP1.out]
        have h42 := ho42.mat
        rw [HP2.out] at h42
        obtain ⟨a42, c42, rfl⟩ := ho42.form
        clear ho42
        go_wp2_with fail
        refine (sameLists _ _ (powM m x) (powM m x) _ h42 hx).mono ?_
        rintro e w31 ⟨rfl, hb31⟩
        replace hTb := hTb.keep (hb31.below _)
        replace hEv := hEv.keep (hb31.below _)
        replace hMl := hMl.keep (hb31.below _)
        replace ha := ha.keep (hb31.below _)
        replace hb := hb.keep (hb31.below _)
        replace hp := hp.keep (hb31.below _)
        replace hm := hm.keep (hb31.below _)
        replace hx := hx.keep (hb31.below _)
        replace hzz := hzz.keep (hb31.below _)
        replace h41 := h41.keep (hb31.below _)
        replace h42 := h42.keep (hb31.below _)
        have b31 := b30.trans (hb31.below _)
        clear hb31 b30
        rw [same_refl]
        cases OK
        · go_wp2
          go_ret
          exact ⟨rfl, b31⟩
        · obtain ⟨t1, t2⟩ := mul_turn HOK.out
          have HT1 := Lib.hid t1
          have HT2 := Lib.hid t2
          clear t1 t2
          go_wp2_with fail
          refine (iTurnMatrix _ b _ hb).mono ?_
          rintro e w32 ⟨v31, rfl, ho31, hb32⟩
          replace hTb := hTb.keep hb32
          replace hEv := hEv.keep hb32
          replace hMl := hMl.keep hb32
          replace ha := ha.keep hb32
          replace hb := hb.keep hb32
          replace hp := hp.keep hb32
          replace hm := hm.keep hb32
          replace hx := hx.keep hb32
          replace hzz := hzz.keep hb32
          replace h41 := h41.keep hb32
          replace h42 := h42.keep hb32
          have b32 := b31.trans (hb32.mono b31.size)
          clear hb32 b31
          have h31 := ho31.mat
          clear ho31
          go_wp2_with fail
          refine (iTurnMatrix _ a _ ha).mono ?_
          rintro e w33 ⟨v32, rfl, ho32, hb33⟩
          replace hTb := hTb.keep hb33
          replace hEv := hEv.keep hb33
          replace hMl := hMl.keep hb33
          replace ha := ha.keep hb33
          replace hb := hb.keep hb33
          replace hp := hp.keep hb33
          replace hm := hm.keep hb33
          replace hx := hx.keep hb33
          replace hzz := hzz.keep hb33
          replace h41 := h41.keep hb33
          replace h42 := h42.keep hb33
          replace h31 := h31.keep hb33
          have b33 := b32.trans (hb33.mono b32.size)
          clear hb33 b32
          have h32 := ho32.mat
          clear ho32
          go_wp2_with fail
          refine (iMultiplyMatrices _ _ _ _ _ h31 h32).mono ?_
          rintro e w34 ⟨v33, rfl, ho33, hb34⟩
          replace hTb := hTb.keep hb34
          replace hEv := hEv.keep hb34
          replace hMl := hMl.keep hb34
          replace ha := ha.keep hb34
          replace hb := hb.keep hb34
          replace hp := hp.keep hb34
          replace hm := hm.keep hb34
          replace hx := hx.keep hb34
          replace hzz := hzz.keep hb34
          replace h41 := h41.keep hb34
          replace h42 := h42.keep hb34
          replace h31 := h31.keep hb34
          replace h32 := h32.keep hb34
          have b34 := b33.trans (hb34.mono b33.size)
          clear hb34 b33
          rw [HT1.out]
          have h33 := ho33.mat
          rw [HT2.out] at h33
          obtain ⟨a33, c33, rfl⟩ := ho33.form
          clear ho33
          go_wp2_with fail
          refine (iMultiplyMatrices _ _ _ _ _ hb ha).mono ?_
          rintro e w35 ⟨v34, rfl, ho34, hb35⟩
          replace hTb := hTb.keep hb35
          replace hEv := hEv.keep hb35
          replace hMl := hMl.keep hb35
          replace ha := ha.keep hb35
          replace hb := hb.keep hb35
          replace hp := hp.keep hb35
          replace hm := hm.keep hb35
          replace hx := hx.keep hb35
          replace hzz := hzz.keep hb35
          replace h41 := h41.keep hb35
          replace h42 := h42.keep hb35
          replace h31 := h31.keep hb35
          replace h32 := h32.keep hb35
          replace h33 := h33.keep hb35
          have b35 := b34.trans (hb35.mono b34.size)
          clear hb35 b34
          have h34 := ho34.mat
          obtain ⟨a34, c34, rfl⟩ := ho34.form
          clear ho34
          go_wp2_with fail
          refine (iTurnMatrix _ _ _ hp).mono ?_
          rintro e w36 ⟨v35, rfl, ho35, hb36⟩
          replace hTb := hTb.keep hb36
          replace hEv := hEv.keep hb36
          replace hMl := hMl.keep hb36
          replace ha := ha.keep hb36
          replace hb := hb.keep hb36
          replace hp := hp.keep hb36
          replace hm := hm.keep hb36
          replace hx := hx.keep hb36
          replace hzz := hzz.keep hb36
          replace h41 := h41.keep hb36
          replace h42 := h42.keep hb36
          replace h31 := h31.keep hb36
          replace h32 := h32.keep hb36
          replace h33 := h33.keep hb36
          replace h34 := h34.keep hb36
          have b36 := b35.trans (hb36.mono b35.size)
          clear hb36 b35
          have h35 := ho35.mat
          clear ho35
          go_wp2_with fail
          refine (sameLists _ _ (turnM (mulM a b)) (turnM (mulM a b)) _ h33 h35).mono ?_
          rintro e w37 ⟨rfl, hb37⟩
          replace hTb := hTb.keep (hb37.below _)
          replace hEv := hEv.keep (hb37.below _)
          replace hMl := hMl.keep (hb37.below _)
          replace ha := ha.keep (hb37.below _)
          replace hb := hb.keep (hb37.below _)
          replace hp := hp.keep (hb37.below _)
          replace hm := hm.keep (hb37.below _)
          replace hx := hx.keep (hb37.below _)
          replace hzz := hzz.keep (hb37.below _)
          replace h41 := h41.keep (hb37.below _)
          replace h42 := h42.keep (hb37.below _)
          replace h31 := h31.keep (hb37.below _)
          replace h32 := h32.keep (hb37.below _)
          replace h33 := h33.keep (hb37.below _)
          replace h34 := h34.keep (hb37.below _)
          replace h35 := h35.keep (hb37.below _)
          have b37 := b36.trans (hb37.below _)
          clear hb37 b36
          rw [same_refl]
          cases hF : mulOk b a
          · go_wp2
            go_ret
            exact ⟨rfl, b37⟩
          · have HTE := Lib.hid (mul_trace HOK.out hF)
            clear hF
            go_wp2_with fail
            refine (iTraceOf _ _ _ h34).mono ?_
            rintro e w38 ⟨rfl, rfl⟩
            rw [HTE.out]
            go_wp2_with fail
            refine (iTraceOf _ _ _ hp).mono ?_
            rintro e w39 ⟨rfl, rfl⟩
            have q40 : (traceOf (mulM a b) == traceOf (mulM a b)) = true := beq_self_eq_true _
            go_wp2
            go_ret
            exact ⟨rfl, b37⟩
      · cases OK
        · go_wp2
          go_ret
          exact ⟨rfl, b27⟩
        · obtain ⟨t1, t2⟩ := mul_turn HOK.out
          have HT1 := Lib.hid t1
          have HT2 := Lib.hid t2
          clear t1 t2
          go_wp2_with fail
          refine (iTurnMatrix _ b _ hb).mono ?_
          rintro e w29 ⟨v31, rfl, ho31, hb29⟩
          replace hTb := hTb.keep hb29
          replace hEv := hEv.keep hb29
          replace hMl := hMl.keep hb29
          replace ha := ha.keep hb29
          replace hb := hb.keep hb29
          replace hp := hp.keep hb29
          replace hm := hm.keep hb29
          replace hx := hx.keep hb29
          replace hzz := hzz.keep hb29
          have b29 := b27.trans (hb29.mono b27.size)
          clear hb29 b27
          have h31 := ho31.mat
          clear ho31
          go_wp2_with fail
          refine (iTurnMatrix _ a _ ha).mono ?_
          rintro e w30 ⟨v32, rfl, ho32, hb30⟩
          replace hTb := hTb.keep hb30
          replace hEv := hEv.keep hb30
          replace hMl := hMl.keep hb30
          replace ha := ha.keep hb30
          replace hb := hb.keep hb30
          replace hp := hp.keep hb30
          replace hm := hm.keep hb30
          replace hx := hx.keep hb30
          replace hzz := hzz.keep hb30
          replace h31 := h31.keep hb30
          have b30 := b29.trans (hb30.mono b29.size)
          clear hb30 b29
          have h32 := ho32.mat
          clear ho32
          go_wp2_with fail
          refine (iMultiplyMatrices _ _ _ _ _ h31 h32).mono ?_
          rintro e w31 ⟨v33, rfl, ho33, hb31⟩
          replace hTb := hTb.keep hb31
          replace hEv := hEv.keep hb31
          replace hMl := hMl.keep hb31
          replace ha := ha.keep hb31
          replace hb := hb.keep hb31
          replace hp := hp.keep hb31
          replace hm := hm.keep hb31
          replace hx := hx.keep hb31
          replace hzz := hzz.keep hb31
          replace h31 := h31.keep hb31
          replace h32 := h32.keep hb31
          have b31 := b30.trans (hb31.mono b30.size)
          clear hb31 b30
          rw [HT1.out]
          have h33 := ho33.mat
          rw [HT2.out] at h33
          obtain ⟨a33, c33, rfl⟩ := ho33.form
          clear ho33
          go_wp2_with fail
          refine (iMultiplyMatrices _ _ _ _ _ hb ha).mono ?_
          rintro e w32 ⟨v34, rfl, ho34, hb32⟩
          replace hTb := hTb.keep hb32
          replace hEv := hEv.keep hb32
          replace hMl := hMl.keep hb32
          replace ha := ha.keep hb32
          replace hb := hb.keep hb32
          replace hp := hp.keep hb32
          replace hm := hm.keep hb32
          replace hx := hx.keep hb32
          replace hzz := hzz.keep hb32
          replace h31 := h31.keep hb32
          replace h32 := h32.keep hb32
          replace h33 := h33.keep hb32
          have b32 := b31.trans (hb32.mono b31.size)
          clear hb32 b31
          have h34 := ho34.mat
          obtain ⟨a34, c34, rfl⟩ := ho34.form
          clear ho34
          go_wp2_with fail
          refine (iTurnMatrix _ _ _ hp).mono ?_
          rintro e w33 ⟨v35, rfl, ho35, hb33⟩
          replace hTb := hTb.keep hb33
          replace hEv := hEv.keep hb33
          replace hMl := hMl.keep hb33
          replace ha := ha.keep hb33
          replace hb := hb.keep hb33
          replace hp := hp.keep hb33
          replace hm := hm.keep hb33
          replace hx := hx.keep hb33
          replace hzz := hzz.keep hb33
          replace h31 := h31.keep hb33
          replace h32 := h32.keep hb33
          replace h33 := h33.keep hb33
          replace h34 := h34.keep hb33
          have b33 := b32.trans (hb33.mono b32.size)
          clear hb33 b32
          have h35 := ho35.mat
          clear ho35
          go_wp2_with fail
          refine (sameLists _ _ (turnM (mulM a b)) (turnM (mulM a b)) _ h33 h35).mono ?_
          rintro e w34 ⟨rfl, hb34⟩
          replace hTb := hTb.keep (hb34.below _)
          replace hEv := hEv.keep (hb34.below _)
          replace hMl := hMl.keep (hb34.below _)
          replace ha := ha.keep (hb34.below _)
          replace hb := hb.keep (hb34.below _)
          replace hp := hp.keep (hb34.below _)
          replace hm := hm.keep (hb34.below _)
          replace hx := hx.keep (hb34.below _)
          replace hzz := hzz.keep (hb34.below _)
          replace h31 := h31.keep (hb34.below _)
          replace h32 := h32.keep (hb34.below _)
          replace h33 := h33.keep (hb34.below _)
          replace h34 := h34.keep (hb34.below _)
          replace h35 := h35.keep (hb34.below _)
          have b34 := b33.trans (hb34.below _)
          clear hb34 b33
          rw [same_refl]
          cases hF : mulOk b a
          · go_wp2
            go_ret
            exact ⟨rfl, b34⟩
          · have HTE := Lib.hid (mul_trace HOK.out hF)
            clear hF
            go_wp2_with fail
            refine (iTraceOf _ _ _ h34).mono ?_
            rintro e w35 ⟨rfl, rfl⟩
            rw [HTE.out]
            go_wp2_with fail
            refine (iTraceOf _ _ _ hp).mono ?_
            rintro e w36 ⟨rfl, rfl⟩
            have q40 : (traceOf (mulM a b) == traceOf (mulM a b)) = true := beq_self_eq_true _
            go_wp2
            go_ret
            exact ⟨rfl, b34⟩
  · have hzm2 := HZM.out rfl
    rw [hzm2] at hzz
    clear hzm2
    go_wp2_with fail
    refine (sameLists _ _ a a _ hzz ha).mono ?_
    rintro e w29 ⟨rfl, hb29⟩
    replace hTb := hTb.keep (hb29.below _)
    replace hEv := hEv.keep (hb29.below _)
    replace hMl := hMl.keep (hb29.below _)
    replace ha := ha.keep (hb29.below _)
    replace hb := hb.keep (hb29.below _)
    replace hp := hp.keep (hb29.below _)
    replace hm := hm.keep (hb29.below _)
    replace hx := hx.keep (hb29.below _)
    replace hzz := hzz.keep (hb29.below _)
    have b29 := b27.trans (hb29.below _)
    clear hb29 b27
    rw [same_refl]
    cases ON
    · cases OK
      · go_wp2
        go_ret
        exact ⟨rfl, b29⟩
      · obtain ⟨t1, t2⟩ := mul_turn HOK.out
        have HT1 := Lib.hid t1
        have HT2 := Lib.hid t2
        clear t1 t2
        go_wp2_with fail
        refine (iTurnMatrix _ b _ hb).mono ?_
        rintro e w30 ⟨v31, rfl, ho31, hb30⟩
        replace hTb := hTb.keep hb30
        replace hEv := hEv.keep hb30
        replace hMl := hMl.keep hb30
        replace ha := ha.keep hb30
        replace hb := hb.keep hb30
        replace hp := hp.keep hb30
        replace hm := hm.keep hb30
        replace hx := hx.keep hb30
        replace hzz := hzz.keep hb30
        have b30 := b29.trans (hb30.mono b29.size)
        clear hb30 b29
        have h31 := ho31.mat
        clear ho31
        go_wp2_with fail
        refine (iTurnMatrix _ a _ ha).mono ?_
        rintro e w31 ⟨v32, rfl, ho32, hb31⟩
        replace hTb := hTb.keep hb31
        replace hEv := hEv.keep hb31
        replace hMl := hMl.keep hb31
        replace ha := ha.keep hb31
        replace hb := hb.keep hb31
        replace hp := hp.keep hb31
        replace hm := hm.keep hb31
        replace hx := hx.keep hb31
        replace hzz := hzz.keep hb31
        replace h31 := h31.keep hb31
        have b31 := b30.trans (hb31.mono b30.size)
        clear hb31 b30
        have h32 := ho32.mat
        clear ho32
        go_wp2_with fail
        refine (iMultiplyMatrices _ _ _ _ _ h31 h32).mono ?_
        rintro e w32 ⟨v33, rfl, ho33, hb32⟩
        replace hTb := hTb.keep hb32
        replace hEv := hEv.keep hb32
        replace hMl := hMl.keep hb32
        replace ha := ha.keep hb32
        replace hb := hb.keep hb32
        replace hp := hp.keep hb32
        replace hm := hm.keep hb32
        replace hx := hx.keep hb32
        replace hzz := hzz.keep hb32
        replace h31 := h31.keep hb32
        replace h32 := h32.keep hb32
        have b32 := b31.trans (hb32.mono b31.size)
        clear hb32 b31
        rw [HT1.out]
        have h33 := ho33.mat
        rw [HT2.out] at h33
        obtain ⟨a33, c33, rfl⟩ := ho33.form
        clear ho33
        go_wp2_with fail
        refine (iMultiplyMatrices _ _ _ _ _ hb ha).mono ?_
        rintro e w33 ⟨v34, rfl, ho34, hb33⟩
        replace hTb := hTb.keep hb33
        replace hEv := hEv.keep hb33
        replace hMl := hMl.keep hb33
        replace ha := ha.keep hb33
        replace hb := hb.keep hb33
        replace hp := hp.keep hb33
        replace hm := hm.keep hb33
        replace hx := hx.keep hb33
        replace hzz := hzz.keep hb33
        replace h31 := h31.keep hb33
        replace h32 := h32.keep hb33
        replace h33 := h33.keep hb33
        have b33 := b32.trans (hb33.mono b32.size)
        clear hb33 b32
        have h34 := ho34.mat
        obtain ⟨a34, c34, rfl⟩ := ho34.form
        clear ho34
        go_wp2_with fail
        refine (iTurnMatrix _ _ _ hp).mono ?_
        rintro e w34 ⟨v35, rfl, ho35, hb34⟩
        replace hTb := hTb.keep hb34
        replace hEv := hEv.keep hb34
        replace hMl := hMl.keep hb34
        replace ha := ha.keep hb34
        replace hb := hb.keep hb34
        replace hp := hp.keep hb34
        replace hm := hm.keep hb34
        replace hx := hx.keep hb34
        replace hzz := hzz.keep hb34
        replace h31 := h31.keep hb34
        replace h32 := h32.keep hb34
        replace h33 := h33.keep hb34
        replace h34 := h34.keep hb34
        have b34 := b33.trans (hb34.mono b33.size)
        clear hb34 b33
        have h35 := ho35.mat
        clear ho35
        go_wp2_with fail
        refine (sameLists _ _ (turnM (mulM a b)) (turnM (mulM a b)) _ h33 h35).mono ?_
        rintro e w35 ⟨rfl, hb35⟩
        replace hTb := hTb.keep (hb35.below _)
        replace hEv := hEv.keep (hb35.below _)
        replace hMl := hMl.keep (hb35.below _)
        replace ha := ha.keep (hb35.below _)
        replace hb := hb.keep (hb35.below _)
        replace hp := hp.keep (hb35.below _)
        replace hm := hm.keep (hb35.below _)
        replace hx := hx.keep (hb35.below _)
        replace hzz := hzz.keep (hb35.below _)
        replace h31 := h31.keep (hb35.below _)
        replace h32 := h32.keep (hb35.below _)
        replace h33 := h33.keep (hb35.below _)
        replace h34 := h34.keep (hb35.below _)
        replace h35 := h35.keep (hb35.below _)
        have b35 := b34.trans (hb35.below _)
        clear hb35 b34
        rw [same_refl]
        cases hF : mulOk b a
        · go_wp2
          go_ret
          exact ⟨rfl, b35⟩
        · have HTE := Lib.hid (mul_trace HOK.out hF)
          clear hF
          go_wp2_with fail
          refine (iTraceOf _ _ _ h34).mono ?_
          rintro e w36 ⟨rfl, rfl⟩
          rw [HTE.out]
          go_wp2_with fail
          refine (iTraceOf _ _ _ hp).mono ?_
          rintro e w37 ⟨rfl, rfl⟩
          have q40 : (traceOf (mulM a b) == traceOf (mulM a b)) = true := beq_self_eq_true _
          go_wp2
          go_ret
          exact ⟨rfl, b35⟩
    · by_cases hxp : 0 < x
      · obtain ⟨p1, p2⟩ := pow_before HON.out hxp
        have HP1 := Lib.hid p1
        have HP2 := Lib.hid p2
        clear p1 p2
        go_wp2_with fail
        refine (sPowerMatrix _ m (x - 1) _ hm).mono ?_
        rintro e w30 ⟨v41, rfl, ho41, hb30⟩
        replace hTb := hTb.keep hb30
        replace hEv := hEv.keep hb30
        replace hMl := hMl.keep hb30
        replace ha := ha.keep hb30
        replace hb := hb.keep hb30
        replace hp := hp.keep hb30
        replace hm := hm.keep hb30
        replace hx := hx.keep hb30
        replace hzz := hzz.keep hb30
        have b30 := b29.trans (hb30.mono b29.size)
        clear hb30 b29
        have h41 := ho41.mat
        obtain ⟨a41, c41, rfl⟩ := ho41.form
        clear ho41
        go_wp2_with fail
        refine (iMultiplyMatrices _ _ _ _ _ hm h41).mono ?_
        rintro e w31 ⟨v42, rfl, ho42, hb31⟩
        replace hTb := hTb.keep hb31
        replace hEv := hEv.keep hb31
        replace hMl := hMl.keep hb31
        replace ha := ha.keep hb31
        replace hb := hb.keep hb31
        replace hp := hp.keep hb31
        replace hm := hm.keep hb31
        replace hx := hx.keep hb31
        replace hzz := hzz.keep hb31
        replace h41 := h41.keep hb31
        have b31 := b30.trans (hb31.mono b30.size)
        clear hb31 b30
        rw [HP1.out]
        have h42 := ho42.mat
        rw [HP2.out] at h42
        obtain ⟨a42, c42, rfl⟩ := ho42.form
        clear ho42
        go_wp2_with fail
        refine (sameLists _ _ (powM m x) (powM m x) _ h42 hx).mono ?_
        rintro e w32 ⟨rfl, hb32⟩
        replace hTb := hTb.keep (hb32.below _)
        replace hEv := hEv.keep (hb32.below _)
        replace hMl := hMl.keep (hb32.below _)
        replace ha := ha.keep (hb32.below _)
        replace hb := hb.keep (hb32.below _)
        replace hp := hp.keep (hb32.below _)
        replace hm := hm.keep (hb32.below _)
        replace hx := hx.keep (hb32.below _)
        replace hzz := hzz.keep (hb32.below _)
        replace h41 := h41.keep (hb32.below _)
        replace h42 := h42.keep (hb32.below _)
        have b32 := b31.trans (hb32.below _)
        clear hb32 b31
        rw [same_refl]
        cases OK
        · go_wp2
          go_ret
          exact ⟨rfl, b32⟩
        · obtain ⟨t1, t2⟩ := mul_turn HOK.out
          have HT1 := Lib.hid t1
          have HT2 := Lib.hid t2
          clear t1 t2
          go_wp2_with fail
          refine (iTurnMatrix _ b _ hb).mono ?_
          rintro e w33 ⟨v31, rfl, ho31, hb33⟩
          replace hTb := hTb.keep hb33
          replace hEv := hEv.keep hb33
          replace hMl := hMl.keep hb33
          replace ha := ha.keep hb33
          replace hb := hb.keep hb33
          replace hp := hp.keep hb33
          replace hm := hm.keep hb33
          replace hx := hx.keep hb33
          replace hzz := hzz.keep hb33
          replace h41 := h41.keep hb33
          replace h42 := h42.keep hb33
          have b33 := b32.trans (hb33.mono b32.size)
          clear hb33 b32
          have h31 := ho31.mat
          clear ho31
          go_wp2_with fail
          refine (iTurnMatrix _ a _ ha).mono ?_
          rintro e w34 ⟨v32, rfl, ho32, hb34⟩
          replace hTb := hTb.keep hb34
          replace hEv := hEv.keep hb34
          replace hMl := hMl.keep hb34
          replace ha := ha.keep hb34
          replace hb := hb.keep hb34
          replace hp := hp.keep hb34
          replace hm := hm.keep hb34
          replace hx := hx.keep hb34
          replace hzz := hzz.keep hb34
          replace h41 := h41.keep hb34
          replace h42 := h42.keep hb34
          replace h31 := h31.keep hb34
          have b34 := b33.trans (hb34.mono b33.size)
          clear hb34 b33
          have h32 := ho32.mat
          clear ho32
          go_wp2_with fail
          refine (iMultiplyMatrices _ _ _ _ _ h31 h32).mono ?_
          rintro e w35 ⟨v33, rfl, ho33, hb35⟩
          replace hTb := hTb.keep hb35
          replace hEv := hEv.keep hb35
          replace hMl := hMl.keep hb35
          replace ha := ha.keep hb35
          replace hb := hb.keep hb35
          replace hp := hp.keep hb35
          replace hm := hm.keep hb35
          replace hx := hx.keep hb35
          replace hzz := hzz.keep hb35
          replace h41 := h41.keep hb35
          replace h42 := h42.keep hb35
          replace h31 := h31.keep hb35
          replace h32 := h32.keep hb35
          have b35 := b34.trans (hb35.mono b34.size)
          clear hb35 b34
          rw [HT1.out]
          have h33 := ho33.mat
          rw [HT2.out] at h33
          obtain ⟨a33, c33, rfl⟩ := ho33.form
          clear ho33
          go_wp2_with fail
          refine (iMultiplyMatrices _ _ _ _ _ hb ha).mono ?_
          rintro e w36 ⟨v34, rfl, ho34, hb36⟩
          replace hTb := hTb.keep hb36
          replace hEv := hEv.keep hb36
          replace hMl := hMl.keep hb36
          replace ha := ha.keep hb36
          replace hb := hb.keep hb36
          replace hp := hp.keep hb36
          replace hm := hm.keep hb36
          replace hx := hx.keep hb36
          replace hzz := hzz.keep hb36
          replace h41 := h41.keep hb36
          replace h42 := h42.keep hb36
          replace h31 := h31.keep hb36
          replace h32 := h32.keep hb36
          replace h33 := h33.keep hb36
          have b36 := b35.trans (hb36.mono b35.size)
          clear hb36 b35
          have h34 := ho34.mat
          obtain ⟨a34, c34, rfl⟩ := ho34.form
          clear ho34
          go_wp2_with fail
          refine (iTurnMatrix _ _ _ hp).mono ?_
          rintro e w37 ⟨v35, rfl, ho35, hb37⟩
          replace hTb := hTb.keep hb37
          replace hEv := hEv.keep hb37
          replace hMl := hMl.keep hb37
          replace ha := ha.keep hb37
          replace hb := hb.keep hb37
          replace hp := hp.keep hb37
          replace hm := hm.keep hb37
          replace hx := hx.keep hb37
          replace hzz := hzz.keep hb37
          replace h41 := h41.keep hb37
          replace h42 := h42.keep hb37
          replace h31 := h31.keep hb37
          replace h32 := h32.keep hb37
          replace h33 := h33.keep hb37
          replace h34 := h34.keep hb37
          have b37 := b36.trans (hb37.mono b36.size)
          clear hb37 b36
          have h35 := ho35.mat
          clear ho35
          go_wp2_with fail
          refine (sameLists _ _ (turnM (mulM a b)) (turnM (mulM a b)) _ h33 h35).mono ?_
          rintro e w38 ⟨rfl, hb38⟩
          replace hTb := hTb.keep (hb38.below _)
          replace hEv := hEv.keep (hb38.below _)
          replace hMl := hMl.keep (hb38.below _)
          replace ha := ha.keep (hb38.below _)
          replace hb := hb.keep (hb38.below _)
          replace hp := hp.keep (hb38.below _)
          replace hm := hm.keep (hb38.below _)
          replace hx := hx.keep (hb38.below _)
          replace hzz := hzz.keep (hb38.below _)
          replace h41 := h41.keep (hb38.below _)
          replace h42 := h42.keep (hb38.below _)
          replace h31 := h31.keep (hb38.below _)
          replace h32 := h32.keep (hb38.below _)
          replace h33 := h33.keep (hb38.below _)
          replace h34 := h34.keep (hb38.below _)
          replace h35 := h35.keep (hb38.below _)
          have b38 := b37.trans (hb38.below _)
          clear hb38 b37
          rw [same_refl]
          cases hF : mulOk b a
          · go_wp2
            go_ret
            exact ⟨rfl, b38⟩
          · have HTE := Lib.hid (mul_trace HOK.out hF)
            clear hF
            go_wp2_with fail
            refine (iTraceOf _ _ _ h34).mono ?_
            rintro e w39 ⟨rfl, rfl⟩
            rw [HTE.out]
            go_wp2_with fail
            refine (iTraceOf _ _ _ hp).mono ?_
            rintro e w40 ⟨rfl, rfl⟩
            have q40 : (traceOf (mulM a b) == traceOf (mulM a b)) = true := beq_self_eq_true _
            go_wp2
            go_ret
            exact ⟨rfl, b38⟩
      · cases OK
        · go_wp2
          go_ret
          exact ⟨rfl, b29⟩
        · obtain ⟨t1, t2⟩ := mul_turn HOK.out
          have HT1 := Lib.hid t1
          have HT2 := Lib.hid t2
          clear t1 t2
          go_wp2_with fail
          refine (iTurnMatrix _ b _ hb).mono ?_
          rintro e w30 ⟨v31, rfl, ho31, hb30⟩
          replace hTb := hTb.keep hb30
          replace hEv := hEv.keep hb30
          replace hMl := hMl.keep hb30
          replace ha := ha.keep hb30
          replace hb := hb.keep hb30
          replace hp := hp.keep hb30
          replace hm := hm.keep hb30
          replace hx := hx.keep hb30
          replace hzz := hzz.keep hb30
          have b30 := b29.trans (hb30.mono b29.size)
          clear hb30 b29
          have h31 := ho31.mat
          clear ho31
          go_wp2_with fail
          refine (iTurnMatrix _ a _ ha).mono ?_
          rintro e w31 ⟨v32, rfl, ho32, hb31⟩
          replace hTb := hTb.keep hb31
          replace hEv := hEv.keep hb31
          replace hMl := hMl.keep hb31
          replace ha := ha.keep hb31
          replace hb := hb.keep hb31
          replace hp := hp.keep hb31
          replace hm := hm.keep hb31
          replace hx := hx.keep hb31
          replace hzz := hzz.keep hb31
          replace h31 := h31.keep hb31
          have b31 := b30.trans (hb31.mono b30.size)
          clear hb31 b30
          have h32 := ho32.mat
          clear ho32
          go_wp2_with fail
          refine (iMultiplyMatrices _ _ _ _ _ h31 h32).mono ?_
          rintro e w32 ⟨v33, rfl, ho33, hb32⟩
          replace hTb := hTb.keep hb32
          replace hEv := hEv.keep hb32
          replace hMl := hMl.keep hb32
          replace ha := ha.keep hb32
          replace hb := hb.keep hb32
          replace hp := hp.keep hb32
          replace hm := hm.keep hb32
          replace hx := hx.keep hb32
          replace hzz := hzz.keep hb32
          replace h31 := h31.keep hb32
          replace h32 := h32.keep hb32
          have b32 := b31.trans (hb32.mono b31.size)
          clear hb32 b31
          rw [HT1.out]
          have h33 := ho33.mat
          rw [HT2.out] at h33
          obtain ⟨a33, c33, rfl⟩ := ho33.form
          clear ho33
          go_wp2_with fail
          refine (iMultiplyMatrices _ _ _ _ _ hb ha).mono ?_
          rintro e w33 ⟨v34, rfl, ho34, hb33⟩
          replace hTb := hTb.keep hb33
          replace hEv := hEv.keep hb33
          replace hMl := hMl.keep hb33
          replace ha := ha.keep hb33
          replace hb := hb.keep hb33
          replace hp := hp.keep hb33
          replace hm := hm.keep hb33
          replace hx := hx.keep hb33
          replace hzz := hzz.keep hb33
          replace h31 := h31.keep hb33
          replace h32 := h32.keep hb33
          replace h33 := h33.keep hb33
          have b33 := b32.trans (hb33.mono b32.size)
          clear hb33 b32
          have h34 := ho34.mat
          obtain ⟨a34, c34, rfl⟩ := ho34.form
          clear ho34
          go_wp2_with fail
          refine (iTurnMatrix _ _ _ hp).mono ?_
          rintro e w34 ⟨v35, rfl, ho35, hb34⟩
          replace hTb := hTb.keep hb34
          replace hEv := hEv.keep hb34
          replace hMl := hMl.keep hb34
          replace ha := ha.keep hb34
          replace hb := hb.keep hb34
          replace hp := hp.keep hb34
          replace hm := hm.keep hb34
          replace hx := hx.keep hb34
          replace hzz := hzz.keep hb34
          replace h31 := h31.keep hb34
          replace h32 := h32.keep hb34
          replace h33 := h33.keep hb34
          replace h34 := h34.keep hb34
          have b34 := b33.trans (hb34.mono b33.size)
          clear hb34 b33
          have h35 := ho35.mat
          clear ho35
          go_wp2_with fail
          refine (sameLists _ _ (turnM (mulM a b)) (turnM (mulM a b)) _ h33 h35).mono ?_
          rintro e w35 ⟨rfl, hb35⟩
          replace hTb := hTb.keep (hb35.below _)
          replace hEv := hEv.keep (hb35.below _)
          replace hMl := hMl.keep (hb35.below _)
          replace ha := ha.keep (hb35.below _)
          replace hb := hb.keep (hb35.below _)
          replace hp := hp.keep (hb35.below _)
          replace hm := hm.keep (hb35.below _)
          replace hx := hx.keep (hb35.below _)
          replace hzz := hzz.keep (hb35.below _)
          replace h31 := h31.keep (hb35.below _)
          replace h32 := h32.keep (hb35.below _)
          replace h33 := h33.keep (hb35.below _)
          replace h34 := h34.keep (hb35.below _)
          replace h35 := h35.keep (hb35.below _)
          have b35 := b34.trans (hb35.below _)
          clear hb35 b34
          rw [same_refl]
          cases hF : mulOk b a
          · go_wp2
            go_ret
            exact ⟨rfl, b35⟩
          · have HTE := Lib.hid (mul_trace HOK.out hF)
            clear hF
            go_wp2_with fail
            refine (iTraceOf _ _ _ h34).mono ?_
            rintro e w36 ⟨rfl, rfl⟩
            rw [HTE.out]
            go_wp2_with fail
            refine (iTraceOf _ _ _ hp).mono ?_
            rintro e w37 ⟨rfl, rfl⟩
            have q40 : (traceOf (mulM a b) == traceOf (mulM a b)) = true := beq_self_eq_true _
            go_wp2
            go_ret
            exact ⟨rfl, b35⟩
set_option maxRecDepth 100000 in
theorem fnMatrices_lifted (os : Os) (started : os.Started) (H : Type) (enc : TypeId × Value → H) :
    ReturnsInHanded {} Tryz.checked os 3 .any (fun w args => (Rows.fnMatricesSpec.pre enc Tryz.prog Tryz.f3 [] false w args ∧ laidMetH Tryz.prog Rows.fnMatricesRow.laid w) ∧ sizedMet enc Tryz.prog Tryz.f3 (OpenSpec.ofChange Rows.fnMatricesSpec) false w args) (Rows.fnMatricesSpec.post enc Tryz.prog Tryz.f3 false true false false) := by
  refine lifted_law_door (lst := Rows.fnMatricesRow.laid) started (by kernel_rfl) Tryz.func3
    (ChangeSpec.witness_shaped (enc := enc) (C := Tryz.checked) (os := os) (X := fun w _ => laidMetH Tryz.prog Rows.fnMatricesRow.laid w) false (World.laidAll Tryz.prog os Rows.fnMatricesRow.laid) #[.slice none 0 0] 8 (World.laidAll_os _ _ _)
      (World.shaped_of_ZipB (by kernel_rfl) (by kernel_rfl)) (by kernel_rfl) (by kernel_rfl) (by kernel_rfl)
      (by rw [MakeChecks.laidMetH_plain _ _ _ (by kernel_rfl)]; exact laidMet_laidAll _ (by kernel_rfl) (by kernel_rfl)))
    rfl (by kernel_rfl) (by kernel_rfl) ?_ ?_
  · intro ds hl
    match ds, hl with
    | [d0], _ => rfl
  · intro W base args ds p hshp hlaid hval hA
    rw [Tryz.params3] at hval hA
    obtain ⟨v0, vs0, d0, ds0, p0, q0, hargs, rfl, rfl, h0, r0⟩ := trodAll_cons hA
    obtain ⟨rfl, rfl, rfl⟩ := trodAll_nil r0
    obtain rfl : args = #[v0] := by cases args; simp_all
    obtain ⟨a0, n0, c0, rfl⟩ := okWide_slice Tryz.underlying22 (hval 0 22 v0 rfl rfl)
    obtain ⟨m0, hm0⟩ : ∃ l, BytesV W (.slice a0 n0 c0) l := by obtain ⟨fu, hf⟩ := h0; exact bytes_of_trod Tryz.underlying22 Tryz.underlying5 (by kernel_rfl) rfl hf
    exact lawMatrices W hshp hlaid _ m0 hm0

set_option maxRecDepth 100000 in
theorem fnMatrices_holds : Rows.FnMatricesSaid :=
  OpenClaim.holds_of_wide 3 Tryz.f3 rfl rfl rfl rfl rfl rfl rfl ⟨rfl, rfl, rfl, rfl, rfl⟩ rfl rfl rfl rfl rfl (by kernel_rfl) Tryz.func3 (by kernel_rfl)
    (of_decide_eq_true (by kernel_rfl)) (by unfold Func.isWrapper; first | (rw [if_pos (by decide +kernel)]; kernel_rfl) | (rw [if_neg (by decide +kernel)]; exact ⟨rfl, rfl⟩))
    (fun os started H enc _ => fnMatrices_lifted os started H enc)
set_option maxRecDepth 100000 in
theorem fnMatricesCard_holds : Rows.FnMatricesCardSaid :=
  Claim7.holds_tied_plain_at .later [] [.data, .data, .data, .data, .sentinel, .sentinel, .pinned] true (true, "34d3a71a00f95a915741c963cd426620d004358b10d8e994fe78df5d3b04802d") true fnMatrices_holds (fun _ h => by cases h) (by kernel_rfl) (fun _ h => by cases h) fnMatrices_row_tie rfl ⟨rfl, rfl⟩ (by kernel_rfl) rfl
    (fun f fn hf hfn => by
      obtain rfl : f = 3 := Option.some.inj ((show Tryz.prog.funcNamed "loop.example/g03103/laws.FnMatrices" = some 3 by kernel_rfl).symm.trans hf) |>.symm
      obtain rfl : fn = Tryz.f3 := (Option.some.inj (Tryz.func3.symm.trans hfn)).symm
      exact ⟨by kernel_rfl, fun j t ht => by
        have hall : (Tryz.f3.params.toList.all fun u => !Tryz.prog.wantsStandIn u) = true := by kernel_rfl
        have hm : t ∈ Tryz.f3.params.toList := Array.mem_toList_iff.2 (Array.mem_of_getElem? ht)
        exact (show Tryz.prog.wantsStandIn t = false by simpa using List.all_eq_true.1 hall t hm)⟩)
    (by kernel_rfl)

end Go.Proofs.YtkohadoicebojaaGreatDoor
