/- FnComponents returns true for every input and leaves its argument as it was. No conditions. -/
import Derived.Test.YtenjakgahniijaaDrawL
import Derived.Test.YtenjakgahniijaaCompP
import Derived.Test.YtenjakgahniijaaCompI
import Derived.Test.YtenjakgahniijaaPrimI
import Derived.Test.YtenjakgahniijaaTurns
import Derived.Test.YtenjakgahniijaaSame
import Derived.Test.YtenjakgahniijaaFrameB
import Derived.Test.YtenjakgahniijaaFrame
namespace Go.Proofs.Ytenjakgahniijaa
open Go.RowKit Go.Deep Go.ChangeShapes Go.WideShapes Go.ChangeAt
theorem irr_no {m : List (List Int)} (h : isMat m = false) : irr m = false := by
  cases hi : irr m
  · rfl
  · rw [irr_mat hi] at h; cases h
theorem tmod_emod {a p : Int} (h : Int.tmod a p = 0) : a % p = 0 := Int.emod_eq_zero_of_dvd (Int.dvd_of_tmod_eq_zero h)
theorem prim_ne {I PR : Bool} {P : Int} (h : PR = (I && decide (P = 1))) : I = true → (PR != (P == 1)) = false := by
  intro hi
  subst hi
  subst h
  rw [Bool.true_and]
  by_cases e : P = 1
  · subst e; rfl
  · rw [decide_eq_false e, beq_eq_false_iff_ne.2 e]; rfl
theorem step_law {m : List (List Int)} {n : Nat} (hl : m.length = n) (hm : isMat m = true) : (0 < primStep m ↔ isPrim m = true) ∧ primStep m ≤ (n : Int) * n - 2 * n + 2 ∧ (n : Int) * n ≤ 81 ∧ 0 ≤ (n : Int) * n := by
  obtain ⟨q, h1, h2, h3, h4⟩ := primStep_facts hm hl
  rw [h1]
  have h9 := (isMat_len hm).2
  have h5 : n * n ≤ 9 * 9 := Nat.mul_le_mul (by omega) (by omega)
  have h6 : (n : Int) * n = ((n * n : Nat) : Int) := (Int.natCast_mul _ _).symm
  refine ⟨h3, h4, by rw [h6]; omega, by rw [h6]; omega⟩
set_option maxRecDepth 10000 in
set_option maxHeartbeats 1600000 in
theorem lawComponents (w : World) (v : Value) (l : List UInt8) (hv : BytesV w v l) :
    Calls Try.prog 4 #[v] w fun e w' => e = .returned (.bool true) ∧ Below w.heap.size w w' := by
  by_cases hbig : 1048576 < (l.length : Int)
  · have hd : decide (1048576 < (l.length : Int)) = true := decide_eq_true hbig
    go_enter Try.func4, Try.ntmps4
    go_wp2_with fail
    refine (bigC v l _ hv).mono ?_
    rintro e w1 ⟨rfl, rfl⟩
    rw [hd]
    go_wp2
    go_ret
    exact ⟨rfl, Below.refl _ _⟩
  have hd : decide (1048576 < (l.length : Int)) = false := decide_eq_false hbig
  clear hbig
  go_enter Try.func4, Try.ntmps4
  go_wp2_with fail
  refine (bigC v l _ hv).mono ?_
  rintro e w1 ⟨rfl, rfl⟩
  rw [hd]
  clear hd
  go_wp2_with fail
  refine (dPeriod v l _ hv).mono ?_
  rintro e w2 ⟨v1, m, rfl, ho1, hb2⟩
  have b2 : Below w.heap.size w _ := hb2
  clear hb2
  have hm := ho1.mat
  obtain ⟨a1, c1, rfl⟩ := ho1.form
  clear ho1 hv
  obtain ⟨n, hn⟩ : ∃ k, m.length = k := ⟨_, rfl⟩
  rw [hn] at hm ⊢
  have HN := Lib.hid hn
  clear hn
  obtain ⟨P, hP⟩ : ∃ P, periodOf m = P := ⟨_, rfl⟩
  have hPb := periodOf_bd (m := m)
  rw [hP] at hPb
  have HP := Lib.hid hP
  clear hP
  have hP0 := hPb.1
  have hP18 := hPb.2
  clear hPb
  obtain ⟨PS, hPS⟩ : ∃ P, primStep m = P := ⟨_, rfl⟩
  have HSL := Lib.hid (step_law (m := m) HN.out)
  rw [hPS] at HSL
  have HPS := Lib.hid hPS
  clear hPS
  obtain ⟨I, hI⟩ : ∃ b, irr m = b := ⟨_, rfl⟩
  have HI := Lib.hid hI
  clear hI
  go_wp2_with fail
  refine (iPeriodOf _ m _ hm).mono ?_
  rintro e w3 ⟨rfl, hb3⟩
  replace hm := hm.keep hb3
  have b3 := b2.trans (hb3.mono b2.size)
  clear hb3 b2
  rw [HP.out]
  go_wp2_with fail
  refine (iComponentsOf _ m _ hm).mono ?_
  rintro e w4 ⟨v2, rfl, ho2, hb4⟩
  replace hm := hm.keep hb4
  have b4 := b3.trans (hb4.mono b3.size)
  clear hb4 b3
  have hl := ho2.mat
  obtain ⟨a2, c2, rfl⟩ := ho2.form
  clear ho2
  obtain ⟨nl, hnl⟩ : ∃ k, (compsOf m).length = k := ⟨_, rfl⟩
  rw [hnl] at hl ⊢
  have HNL := Lib.hid hnl
  clear hnl
  go_wp2_with fail
  refine (iReachOf _ m _ hm).mono ?_
  rintro e w5 ⟨v3, rfl, ho3, hb5⟩
  replace hm := hm.keep hb5
  replace hl := hl.keep hb5
  have b5 := b4.trans (hb5.mono b4.size)
  clear hb5 b4
  have hr := ho3.mat
  clear ho3
  go_wp2_with fail
  refine (iTurnsOf _ m _ hm).mono ?_
  rintro e w6 ⟨v4, rfl, (ho4 : Own _ _ _ _ _), hb6⟩
  replace hm := hm.keep hb6
  replace hl := hl.keep hb6
  replace hr := hr.keep hb6
  have b6 := b5.trans (hb6.mono b5.size)
  clear hb6 b5
  have ht : Ints _ _ _ := ho4.row
  obtain ⟨a4, c4, rfl⟩ := Own.form ho4 (ints_length _)
  clear ho4
  obtain ⟨nt, hnt⟩ : ∃ k, (turnsOf m).length = k := ⟨_, rfl⟩
  rw [hnt] at ht ⊢
  have HNT := Lib.hid hnt
  clear hnt
  go_wp2_with fail
  refine (iPrimitiveStep _ m _ hm).mono ?_
  rintro e w7 ⟨rfl, hb7⟩
  replace hm := hm.keep hb7
  replace hl := hl.keep hb7
  replace hr := hr.keep hb7
  replace ht := ht.keep hb7
  have b7 := b6.trans (hb7.mono b6.size)
  clear hb7 b6
  rw [HPS.out]
  have q5 : ∀ b : Bool, (b != b) = false := fun b => by simp
  have q6 : ∀ b : Int, (b != b) = false := fun b => by simp
  have q7 := q6 P
  have q8 := q6 PS
  have q9 := q5 I
  clear q5 q6
  go_wp2_with fail
  refine (sPeriodOf _ m _ hm).mono ?_
  rintro e w8 ⟨rfl, hb8⟩
  replace hm := hm.keep hb8
  replace hl := hl.keep hb8
  replace hr := hr.keep hb8
  replace ht := ht.keep hb8
  have b8 := b7.trans (hb8.mono b7.size)
  clear hb8 b7
  rw [HP.out]
  go_wp2_with fail
  refine (sComponentsOf _ m _ hm).mono ?_
  rintro e w9 ⟨vz, rfl, hoz, hb9⟩
  replace hm := hm.keep hb9
  replace hl := hl.keep hb9
  replace hr := hr.keep hb9
  replace ht := ht.keep hb9
  have b9 := b8.trans (hb9.mono b8.size)
  clear hb9 b8
  have hz9 := hoz.mat
  clear hoz
  go_wp2_with fail
  refine (sameLists _ _ (compsOf m) (compsOf m) _ hl hz9).mono ?_
  rintro e w10 ⟨rfl, hb10⟩
  replace hm := hm.keep (hb10.below _)
  replace hl := hl.keep (hb10.below _)
  replace hr := hr.keep (hb10.below _)
  replace ht := ht.keep (hb10.below _)
  have b10 := b9.trans (hb10.below _)
  clear hb10 b9
  rw [same_refl]
  clear hz9
  go_wp2_with fail
  refine (sReachOf _ m _ hm).mono ?_
  rintro e w11 ⟨vz, rfl, hoz, hb11⟩
  replace hm := hm.keep hb11
  replace hl := hl.keep hb11
  replace hr := hr.keep hb11
  replace ht := ht.keep hb11
  have b11 := b10.trans (hb11.mono b10.size)
  clear hb11 b10
  have hz11 := hoz.mat
  clear hoz
  go_wp2_with fail
  refine (sameLists _ _ (reachM m) (reachM m) _ hr hz11).mono ?_
  rintro e w12 ⟨rfl, hb12⟩
  replace hm := hm.keep (hb12.below _)
  replace hl := hl.keep (hb12.below _)
  replace hr := hr.keep (hb12.below _)
  replace ht := ht.keep (hb12.below _)
  have b12 := b11.trans (hb12.below _)
  clear hb12 b11
  rw [same_refl]
  clear hz11
  clear hr
  go_wp2_with fail
  refine (sTurnsOf _ m _ hm).mono ?_
  rintro e w13 ⟨vz, rfl, hoz, hb13⟩
  replace hm := hm.keep hb13
  replace hl := hl.keep hb13
  replace ht := ht.keep hb13
  have b13 := b12.trans (hb13.mono b12.size)
  clear hb13 b12
  have hz13 := (show Ints _ _ _ from Own.row hoz)
  clear hoz
  go_wp2_with fail
  refine (sameInts _ _ (turnsOf m) (turnsOf m) _ ht hz13).mono ?_
  rintro e w14 ⟨rfl, hb14⟩
  replace hm := hm.keep (hb14.below _)
  replace hl := hl.keep (hb14.below _)
  replace ht := ht.keep (hb14.below _)
  have b14 := b13.trans (hb14.below _)
  clear hb14 b13
  rw [same_refl]
  clear hz13
  go_wp2_with fail
  refine (sPrimitiveStep _ m _ hm).mono ?_
  rintro e w15 ⟨rfl, hb15⟩
  replace hm := hm.keep hb15
  replace hl := hl.keep hb15
  replace ht := ht.keep hb15
  have b15 := b14.trans (hb15.mono b14.size)
  clear hb15 b14
  rw [HPS.out]
  go_wp2_with fail
  refine (iIsIrreducible _ m _ hm).mono ?_
  rintro e w16 ⟨rfl, hb16⟩
  replace hm := hm.keep hb16
  replace hl := hl.keep hb16
  replace ht := ht.keep hb16
  have b16 := b15.trans (hb16.mono b15.size)
  clear hb16 b15
  rw [HI.out]
  go_wp2_with fail
  refine (sIsIrreducible _ m _ hm).mono ?_
  rintro e w17 ⟨rfl, hb17⟩
  replace hm := hm.keep hb17
  replace hl := hl.keep hb17
  replace ht := ht.keep hb17
  have b17 := b16.trans (hb17.mono b16.size)
  clear hb17 b16
  rw [HI.out]
  obtain ⟨PR, hPR⟩ : ∃ b, isPrim m = b := ⟨_, rfl⟩
  have HPR := Lib.hid hPR
  have hQ : PR = (I && decide (P = 1)) := by rw [← hPR, ← HI.out, ← HP.out]; rfl
  have HQ := Lib.hid hQ
  clear hPR hQ
  cases I
  ·
    have hPR : PR = false := by rw [HQ.out]; rfl
    subst hPR
    go_wp2_with fail
    refine (iIsPrimitive _ m _ hm).mono ?_
    rintro e w18 ⟨rfl, hb18⟩
    replace hm := hm.keep hb18
    replace hl := hl.keep hb18
    replace ht := ht.keep hb18
    have b18 := b17.trans (hb18.mono b17.size)
    clear hb18 b17
    rw [HPR.out]
    go_wp2_with fail
    refine (iIsIrreducible _ m _ hm).mono ?_
    rintro e w19 ⟨rfl, hb19⟩
    replace hm := hm.keep hb19
    replace hl := hl.keep hb19
    replace ht := ht.keep hb19
    have b19 := b18.trans (hb19.mono b18.size)
    clear hb19 b18
    rw [HI.out]
    cases hM : isMat m
    ·
      have hp0 : P = 0 := by rw [← HP.out]; unfold periodOf; rw [if_neg (by rw [hM]; decide)]
      have hl0 : nl = 0 := by rw [← HNL.out, compsOf_no hM]; rfl
      subst hp0
      subst hl0
      have HM := Lib.hid hM
      clear hM
      go_wp2_with fail
      refine (sIsMatrix _ m _ hm).mono ?_
      rintro e w20 ⟨rfl, rfl⟩
      rw [HM.out]
      go_wp2
      go_ret
      exact ⟨rfl, b19⟩
    ·
      have HM := Lib.hid hM
      clear hM
      have ht0 : nt = 0 := by rw [← HNT.out, turnsOf_no HI.out]; rfl
      subst ht0
      go_wp2_with fail
      refine (sIsMatrix _ m _ hm).mono ?_
      rintro e w20 ⟨rfl, rfl⟩
      rw [HM.out]
      go_wp2
      go_loopw [9] (fun i wr => (∃ j : Nat, 1 ≤ j ∧ j ≤ 9 ∧ i = .int .i64 j) ∧ Below w19.heap.size w19 wr) (fun i _ => 9 - (intOf i).toNat)
      case atStart => exact ⟨⟨1, by omega, by omega, rfl⟩, Below.refl _ _⟩
      case round =>
        obtain ⟨⟨j, hj1, hj9, rfl⟩, hd⟩ := hrel
        by_cases hlt : j ≤ 8
        · have HT := Lib.hid (fun h1 h2 => trace_per (m := m) (k := j) hj1 h1 h2)
          go_wp2_with fail
          refine (sPowerMatrix _ m _ _ (hm.keep hd)).mono ?_
          rintro e w60 ⟨v6, rfl, ho6, hb6⟩
          have hd6 := hd.trans (hb6.mono hd.size)
          obtain ⟨a6, c6, rfl⟩ := ho6.form
          cases hB : powB m (j : Int)
          · clear HT hB
            go_wp2
            go_roundw
            case rel => exact ⟨⟨j + 1, by omega, by omega, by go_num⟩, hd6⟩
            case measure => simp [intOf]; omega
          · have HB := Lib.hid hB
            clear hB
            go_wp2_with fail
            refine (sTraceOf _ _ _ ho6.mat).mono ?_
            rintro e w61 ⟨rfl, rfl⟩
            by_cases hT : 0 < traceOf (powM m (j : Int))
            · obtain ⟨h1, h2⟩ := HT.out HB.out hT
              rw [HP.out] at h1 h2
              have h3 := tmod_emod h2
              have h4 : (P == 0) = false := beq_eq_false_iff_ne.2 (by omega)
              have h5 : P ≠ 0 := by omega
              go_wp2
              go_roundw
              case rel => exact ⟨⟨j + 1, by omega, by omega, by go_num⟩, hd6⟩
              case measure => simp [intOf]; omega
            · go_wp2
              go_roundw
              case rel => exact ⟨⟨j + 1, by omega, by omega, by go_num⟩, hd6⟩
              case measure => simp [intOf]; omega
        · have br := b19.trans (hd.mono b19.size)
          replace hm := hm.keep hd
          replace hl := hl.keep hd
          replace ht := ht.keep hd
          clear hd
          obtain ⟨wa, hwa⟩ : ∃ wa, wr = wa := ⟨_, rfl⟩
          rw [hwa] at br hm hl ht ⊢
          clear hwa
          clear HNL HNT HQ
          go_wp2
          go_loopw [12] (fun i wr => i = .int .i64 0 ∧ wr = wa) (fun _ _ => 0)
          case atStart => exact ⟨rfl, rfl⟩
          case round =>
            obtain ⟨rfl, rfl⟩ := hrel
            go_wp2_with fail
            refine (iIsIrreducible _ m _ hm).mono ?_
            rintro e w21 ⟨rfl, hb21⟩
            replace hm := hm.keep hb21
            replace hl := hl.keep hb21
            replace ht := ht.keep hb21
            have b21 := br.trans (hb21.mono br.size)
            clear hb21 br
            rw [HI.out]
            go_wp2_with fail
            refine (iIsIrreducible _ m _ hm).mono ?_
            rintro e w22 ⟨rfl, hb22⟩
            replace hm := hm.keep hb22
            replace hl := hl.keep hb22
            replace ht := ht.keep hb22
            have b22 := b21.trans (hb22.mono b21.size)
            clear hb22 b21
            rw [HI.out]
            obtain ⟨hs1, hs2, hs3, hs4⟩ := HSL.out HM.out
            have hs5 : ¬ 0 < PS := fun h => by have := hs1.1 h; rw [HPR.out] at this; cases this
            clear hs1
            go_wp2_with fail
            refine (iIsPrimitive _ m _ hm).mono ?_
            rintro e w23 ⟨rfl, hb23⟩
            replace hm := hm.keep hb23
            replace hl := hl.keep hb23
            replace ht := ht.keep hb23
            have b23 := b22.trans (hb23.mono b22.size)
            clear hb23 b22
            rw [HPR.out]
            go_wp2
            go_ret
            exact ⟨ret_bool (by simp [hs5]; unfold wrap64; omega), b23⟩
  ·
    have q20 : (P == 1) = PR := by rw [HQ.out, Bool.true_and]; exact beq_dec P 1
    have q21 : decide (P = 1) = PR := by rw [HQ.out, Bool.true_and]
    have q22 : (PR != PR) = false := by simp
    go_wp2_with fail
    refine (iIsPrimitive _ m _ hm).mono ?_
    rintro e w18 ⟨rfl, hb18⟩
    replace hm := hm.keep hb18
    replace hl := hl.keep hb18
    replace ht := ht.keep hb18
    have b18 := b17.trans (hb18.mono b17.size)
    clear hb18 b17
    rw [HPR.out]
    go_wp2_with fail
    refine (iIsIrreducible _ m _ hm).mono ?_
    rintro e w19 ⟨rfl, hb19⟩
    replace hm := hm.keep hb19
    replace hl := hl.keep hb19
    replace ht := ht.keep hb19
    have b19 := b18.trans (hb19.mono b18.size)
    clear hb19 b18
    rw [HI.out]
    have HM := Lib.hid (irr_mat HI.out)
    go_wp2_with fail
    refine (sIsMatrix _ m _ hm).mono ?_
    rintro e w20 ⟨rfl, rfl⟩
    rw [HM.out]
    go_wp2
    go_loopw [9] (fun i wr => (∃ j : Nat, 1 ≤ j ∧ j ≤ 9 ∧ i = .int .i64 j) ∧ Below w19.heap.size w19 wr) (fun i _ => 9 - (intOf i).toNat)
    case atStart => exact ⟨⟨1, by omega, by omega, rfl⟩, Below.refl _ _⟩
    case round =>
      obtain ⟨⟨j, hj1, hj9, rfl⟩, hd⟩ := hrel
      by_cases hlt : j ≤ 8
      · have HT := Lib.hid (fun h1 h2 => trace_per (m := m) (k := j) hj1 h1 h2)
        go_wp2_with fail
        refine (sPowerMatrix _ m _ _ (hm.keep hd)).mono ?_
        rintro e w60 ⟨v6, rfl, ho6, hb6⟩
        have hd6 := hd.trans (hb6.mono hd.size)
        obtain ⟨a6, c6, rfl⟩ := ho6.form
        cases hB : powB m (j : Int)
        · clear HT hB
          go_wp2
          go_roundw
          case rel => exact ⟨⟨j + 1, by omega, by omega, by go_num⟩, hd6⟩
          case measure => simp [intOf]; omega
        · have HB := Lib.hid hB
          clear hB
          go_wp2_with fail
          refine (sTraceOf _ _ _ ho6.mat).mono ?_
          rintro e w61 ⟨rfl, rfl⟩
          by_cases hT : 0 < traceOf (powM m (j : Int))
          · obtain ⟨h1, h2⟩ := HT.out HB.out hT
            rw [HP.out] at h1 h2
            have h3 := tmod_emod h2
            have h4 : (P == 0) = false := beq_eq_false_iff_ne.2 (by omega)
            have h5 : P ≠ 0 := by omega
            go_wp2
            go_roundw
            case rel => exact ⟨⟨j + 1, by omega, by omega, by go_num⟩, hd6⟩
            case measure => simp [intOf]; omega
          · go_wp2
            go_roundw
            case rel => exact ⟨⟨j + 1, by omega, by omega, by go_num⟩, hd6⟩
            case measure => simp [intOf]; omega
      · have br := b19.trans (hd.mono b19.size)
        replace hm := hm.keep hd
        replace hl := hl.keep hd
        replace ht := ht.keep hd
        clear hd
        obtain ⟨wa, hwa⟩ : ∃ wa, wr = wa := ⟨_, rfl⟩
        rw [hwa] at br hm hl ht ⊢
        clear hwa
        obtain ⟨hp1, HTBD, HTAR⟩ : 0 < P ∧ Hid (∀ j, j < n → 0 ≤ trn m n P j ∧ trn m n P j < P) ∧ Hid (∀ i j, i < n → j < n → 0 < ent m i j → Int.tmod (trn m n P i + 1 - trn m n P j) P = 0) := by
          obtain ⟨k1, k2, k3⟩ := turns_arc HI.out HN.out
          rw [HP.out] at k1 k2 k3
          exact ⟨k1, Lib.hid k2, Lib.hid k3⟩
        have hpn : P ≠ 0 := by omega
        have hTE : turnsOf m = rowF n (trn m n P) := by rw [turnsOf_yes HI.out HN.out, HP.out]
        have htn : nt = n := by rw [← HNT.out, hTE, rowF_length]
        subst htn
        rw [hTE] at ht
        have hn1 : 1 ≤ nt := by have := (isMat_len HM.out).1; have := HN.out; omega
        have hCE := comps_irr HI.out HN.out
        have hl1 : nl = 1 := by rw [← HNL.out, hCE]; rfl
        subst hl1
        rw [hCE] at hl
        have HME := Lib.hid (fun i (r : List Int) (h : m[i]? = some r) => isMat_row HM.out h)
        clear hTE hCE HNT HNL HQ q7 q8 q9
        obtain ⟨am, nm, cm, em, -, hnm, HCM⟩ := hm.open
        cases em
        obtain ⟨at1, nt1, ct1, et, -, hnt1, HCT⟩ := ht.open
        cases et
        go_wp2
        go_loopw [12] (fun i wr => (∃ j : Nat, j ≤ nt ∧ i = .int .i64 j) ∧ Drawn wa wr) (fun i _ => nt - (intOf i).toNat)
        case atStart => exact ⟨⟨0, Nat.zero_le _, rfl⟩, Drawn.refl _⟩
        case round =>
          obtain ⟨⟨i, hi, rfl⟩, hdw⟩ := hrel
          by_cases hlt : i < nt
          · obtain ⟨b, off, u, r, rfl, hc, HX, hu⟩ := HCM.out i hlt
            obtain ⟨ar, nr, cr, rfl, HLR, hnr, HCR⟩ := hu.open
            have hnn : nr = nt := by have := HME.out i r HX.out; have := HN.out; have := HLR.out; omega
            subst hnn
            clear hu
            obtain ⟨bt, ot, tx, rfl, hct, HXT⟩ := HCT.out i hlt
            have htx : trn m nr P i = tx := by have := HXT.out; rw [rowF_get hlt] at this; exact Option.some.inj this
            have HTX := Lib.hid htx
            have htb := HTBD.out i hlt
            rw [htx] at htb
            clear htx
            go_wp2
            go_loopw [13] (fun i wr => (∃ j : Nat, j ≤ nr ∧ i = .int .i64 j) ∧ Drawn wa wr) (fun i _ => nr - (intOf i).toNat)
            case atStart => exact ⟨⟨0, Nat.zero_le _, rfl⟩, hdw⟩
            case round =>
              clear hdw
              obtain ⟨⟨j, hj, rfl⟩, hdw⟩ := hrel
              by_cases hltj : j < nr
              · obtain ⟨b2, o2, x, rfl, hc2, HX2⟩ := HCR.out j hltj
                obtain ⟨bt2, ot2, ty, hab, hct2, HXT2⟩ := HCT.out j hltj
                cases hab
                have hty : trn m nr P j = ty := by have := HXT2.out; rw [rowF_get hltj] at this; exact Option.some.inj this
                have htb2 := HTBD.out j hltj
                rw [hty] at htb2
                have k1 := hdw.cell hc
                have k2 := hdw.cell hc2
                have k3 := hdw.cell hct
                have k4 := hdw.cell hct2
                have HAR := Lib.hid (fun h => HTAR.out i j hlt hltj h)
                rw [ent_of HX.out HX2.out, HTX.out, hty] at HAR
                obtain ⟨t1, t2⟩ := htb
                obtain ⟨t3, t4⟩ := htb2
                clear hty
                by_cases hx : 0 < x
                · have hm1 := HAR.out hx
                  have hm2 := tmod_emod hm1
                  go_wp2
                  go_quiet (fail)
                  go_wp2
                  go_roundw
                  case rel => exact ⟨⟨j + 1, by omega, by go_num⟩, hdw.drewN _⟩
                  case measure => simp [intOf]; omega
                · have hxd : decide (0 < x) = false := decide_eq_false hx
                  go_wp2
                  go_quiet (fail)
                  go_wp2
                  go_roundw
                  case rel => exact ⟨⟨j + 1, by omega, by go_num⟩, hdw.drewN _⟩
                  case measure => simp [intOf]; omega
              · go_wp2
                go_roundw
                case rel => exact ⟨⟨i + 1, by omega, by go_num⟩, hdw⟩
                case measure => simp [intOf]; omega
          · have bs := br.trans ((hdw.below wa.heap.size).mono br.size)
            replace hm := hm.keep (hdw.below _)
            replace hl := hl.keep (hdw.below _)
            clear hdw br HCM HCT HTBD HTAR HME ht
            obtain ⟨wb, hwb⟩ : ∃ wb, wr = wb := ⟨_, rfl⟩
            rw [hwb] at bs hm hl ⊢
            clear hwb
            go_wp2_with fail
            refine (iIsIrreducible _ m _ hm).mono ?_
            rintro e w21 ⟨rfl, hb21⟩
            replace hm := hm.keep hb21
            replace hl := hl.keep hb21
            have b21 := bs.trans (hb21.mono bs.size)
            clear hb21 bs
            rw [HI.out]
            go_wp2_with fail
            refine (iIsIrreducible _ m _ hm).mono ?_
            rintro e w22 ⟨rfl, hb22⟩
            replace hm := hm.keep hb22
            replace hl := hl.keep hb22
            have b22 := b21.trans (hb22.mono b21.size)
            clear hb22 b21
            rw [HI.out]
            obtain ⟨al, nl2, cl, el, -, hnl2, HCL⟩ := hl.open
            cases el
            obtain ⟨b0, o0, u0, r0, rfl, hc0, HX0, hu0⟩ := HCL.out 0 (by omega)
            obtain rfl : r0 = rowF nt fun a => (a : Int) := by have := HX0.out; exact (Option.some.inj this).symm
            obtain ⟨ar0, nr0, cr0, rfl, HLR0, hnr0, -⟩ := hu0.open
            have hn0 : nr0 = nt := by have := HLR0.out; rw [rowF_length] at this; exact this.symm
            subst hn0
            simp only [Nat.add_zero] at hc0
            clear hu0 HCL HX0 HLR0
            have q30 : ((nr0 : Int) != (nr0 : Int)) = false := by simp
            obtain ⟨hs1, hs2, hs3, hs4⟩ := HSL.out HM.out
            rw [HPR.out] at hs1
            cases PR
            · have hs5 : ¬ 0 < PS := fun h => by have := hs1.1 h; cases this
              clear hs1
              go_wp2_with fail
              refine (iIsPrimitive _ m _ hm).mono ?_
              rintro e w23 ⟨rfl, hb23⟩
              replace hm := hm.keep hb23
              replace hl := hl.keep hb23
              have b23 := b22.trans (hb23.mono b22.size)
              clear hb23 b22
              rw [HPR.out]
              go_wp2
              go_ret
              first | exact ⟨rfl, b23⟩ | exact ⟨ret_bool (by simp [hs5]; unfold wrap64; omega), b23⟩
            · have hs5 : 0 < PS := hs1.2 rfl
              clear hs1
              go_wp2_with fail
              refine (iIsPrimitive _ m _ hm).mono ?_
              rintro e w23 ⟨rfl, hb23⟩
              replace hm := hm.keep hb23
              replace hl := hl.keep hb23
              have b23 := b22.trans (hb23.mono b22.size)
              clear hb23 b22
              rw [HPR.out]
              go_wp2
              go_ret
              first | exact ⟨rfl, b23⟩ | exact ⟨ret_bool (by simp [hs5]; unfold wrap64; omega), b23⟩
set_option maxRecDepth 100000 in
theorem fnComponents_lifted (os : Os) (started : os.Started) (H : Type) (enc : TypeId × Value → H) :
    ReturnsInHanded {} Try.checked os 4 .any (Rows.fnComponentsSpec.pre6 enc Try.prog Try.f4 Rows.fnComponentsRow.domain false) (Rows.fnComponentsSpec.post enc Try.prog Try.f4 false true false false) := by
  refine lifted_law started (by kernel_rfl) Try.func4
    (ChangeSpec.witness6 (enc := enc) (C := Try.checked) false ⟨#[], #[.slice none 0 0], []⟩ 8 (by kernel_rfl) (by kernel_rfl) (by kernel_rfl) (by kernel_rfl))
    rfl (by kernel_rfl) (by kernel_rfl) ?_ ?_
  · intro ds hl
    match ds, hl with
    | [d0], _ => rfl
  · intro W base args ds p hval hA
    rw [Try.params4] at hval hA
    obtain ⟨v0, vs0, d0, ds0, p0, q0, hargs, rfl, rfl, h0, r0⟩ := trodAll_cons hA
    obtain ⟨rfl, rfl, rfl⟩ := trodAll_nil r0
    obtain rfl : args = #[v0] := by cases args; simp_all
    obtain ⟨a0, n0, c0, rfl⟩ := okWide_slice Try.underlying22 (hval 0 22 v0 rfl rfl)
    obtain ⟨m0, hm0⟩ : ∃ l, BytesV W (.slice a0 n0 c0) l := by obtain ⟨fu, hf⟩ := h0; exact bytes_of_trod Try.underlying22 Try.underlying5 (by kernel_rfl) rfl hf
    exact lawComponents W _ m0 hm0

set_option maxRecDepth 100000 in
theorem fnComponents_holds : Rows.FnComponentsSaid :=
  OpenClaim.holds_of_wide 4 Try.f4 rfl rfl rfl rfl rfl rfl rfl ⟨rfl, rfl, rfl, rfl, rfl⟩ rfl rfl rfl rfl rfl (by kernel_rfl) Try.func4 (by kernel_rfl)
    (of_decide_eq_true (by kernel_rfl)) (by unfold Func.isWrapper; first | (rw [if_pos (by decide +kernel)]; kernel_rfl) | (rw [if_neg (by decide +kernel)]; exact ⟨rfl, rfl⟩))
    (fun os started H enc _ => fnComponents_lifted os started H enc)

end Go.Proofs.Ytenjakgahniijaa
