/- Contracts of MultiplyMatrices, second part. No statement is proved here. -/
import Derived.Test.YtkohadoicebojaaGreatDoorMatE
namespace Go.Proofs.YtkohadoicebojaaGreatDoor
open Go.RowKit Go.Deep
/-- A row of the product that is being filled: the terms below k are in, of term k those of the columns below j. -/
def lineF (a b : List (List Int)) (i k j : Nat) : Nat → Int := fun q => if q < j then dot a b i q (k + 1) else dot a b i q k
theorem lineF_step (a b : List (List Int)) (n i k j : Nat) : (rowF n (lineF a b i k j)).set j (dot a b i j (k + 1)) = rowF n (lineF a b i k (j + 1)) := by
  apply List.ext_getElem?
  intro q
  rw [List.getElem?_set]
  by_cases hq : q < n
  · by_cases e : j = q
    · subst e; rw [if_pos rfl, if_pos (by rw [rowF_length]; exact hq), rowF_get hq]; unfold lineF; rw [if_pos (by omega)]
    · rw [if_neg e, rowF_get hq, rowF_get hq]; unfold lineF
      by_cases e2 : q < j
      · rw [if_pos e2, if_pos (by omega)]
      · rw [if_neg e2, if_neg (by omega)]
  · have e3 : (rowF n (lineF a b i k (j + 1)))[q]? = none := List.getElem?_eq_none (by rw [rowF_length]; omega)
    have e4 : (rowF n (lineF a b i k j))[q]? = none := List.getElem?_eq_none (by rw [rowF_length]; omega)
    rw [e3, e4]
    split
    · rw [if_neg (by rw [rowF_length]; omega)]
    · rfl
theorem lineF_row (a b : List (List Int)) (n i k : Nat) : rowF n (lineF a b i k n) = rowF n (lineF a b i (k + 1) 0) := by
  apply rowF_congr
  intro q hq
  unfold lineF
  rw [if_pos hq, if_neg (by omega)]
theorem lineF_zero (a b : List (List Int)) (n i : Nat) : rowF n (lineF a b i 0 0) = rowF n (fun _ => 0) := by
  apply rowF_congr
  intro q hq
  unfold lineF
  rw [if_neg (by omega)]; rfl
theorem lineF_all (a b : List (List Int)) (n i : Nat) : rowF n (lineF a b i n 0) = rowF n (fun q => dot a b i q n) := by
  apply rowF_congr
  intro q hq
  unfold lineF
  rw [if_neg (by omega)]
theorem lineF_at (a b : List (List Int)) (i k j : Nat) : lineF a b i k j j = dot a b i j k := by unfold lineF; rw [if_neg (by omega)]
set_option maxRecDepth 10000 in
set_option maxHeartbeats 400000 in
theorem itimes (va vb : Value) (a b : List (List Int)) (w : World) (h : Mat w va a) (k : Mat w vb b) (ha : isMat a = true) (hb : isMat b = true) (hab : a.length = b.length) :
    Calls Tryz.prog 52 #[va, vb] w fun e w' => ∃ v', e = .returned v' ∧ OwnMat 62 3 w.heap.size w' v' (prodM a b a.length) ∧ Below w.heap.size w w' := by
  obtain ⟨aa, n, ca, rfl, HL, hn, HC⟩ := h.open
  obtain ⟨ab, nb, cb, rfl, HLb, hnb, HCb⟩ := k.open
  clear h k
  have hnn : nb = n := by rw [← HL.out, ← HLb.out, hab]
  subst hnn
  have n9 : nb ≤ 9 := by have := (isMat_len ha).2; have := HL.out; omega
  have n1 : 0 < nb := by have := (isMat_len ha).1; have := HL.out; omega
  have HA := Lib.hid ha; clear ha
  have HB := Lib.hid hb; clear hb
  rw [HL.out]
  clear hab
  obtain ⟨b0, o0, u0, r0, rfl, hc0, HX0, hu0⟩ := HCb.out 0 n1
  obtain ⟨a0, n0, c0, rfl, HL0, hn0, -⟩ := hu0.open
  have hnn : n0 = nb := by have := isMat_row HB.out HX0.out; have := HLb.out; have := HL0.out; omega
  subst hnn
  clear hu0
  rw [Nat.add_zero] at hc0
  have hmk := fun w => run_make_row' (P := Tryz.prog) 62 3 (.int .i64 0) 8 Tryz.underlying62 Tryz.infoInt rfl .i64 .i64 n0 (by omega) (by omega) w
  go_enter Tryz.func52, Tryz.ntmps52
  go_wp2
  go_loopw [5, 16] (fun v i wr => ∃ i' : Nat, i' ≤ n0 ∧ i = .int .i64 i' ∧ OwnMat 62 3 w.heap.size wr v (tabF i' n0 (fun p q => dot a b p q n0)) ∧ Below w.heap.size w wr) (fun _ i _ => n0 - (intOf i).toNat)
  case atStart => exact ⟨0, Nat.zero_le _, rfl, OwnMat.empty _ _ _, below_alloc _ _⟩
  case round =>
    obtain ⟨i, hi, rfl, ho, hbl⟩ := hrel
    obtain ⟨wo, rfl⟩ : ∃ wo : World, wo = wr := ⟨_, rfl⟩
    by_cases hlt : i < n0
    · obtain ⟨b1, o1, u1, r1, rfl, hc1, HX1, hu1⟩ := HC.out i hlt
      obtain ⟨a1, n1', c1, rfl, HL1, hn1, HC1⟩ := hu1.open
      have hnn : n1' = n0 := by have := isMat_row HA.out HX1.out; have := HL.out; have := HL1.out; omega
      subst hnn
      clear hu1
      have k0 := cell_keep hbl hc0
      have k1 := cell_keep hbl hc1
      have hH := ho.toH
      have hs := hbl.size
      have hz := Own.zeros 3 wo n1' (by omega)
      go_wp2
      go_loopw [27] (fun i' wq => ∃ k : Nat, k ≤ n1' ∧ i' = .int .i64 k ∧ Own 3 wo.heap.size wq (.slice (some ⟨wo.heap.size, 0, none⟩) n1' n1') (ints (rowF n1' (lineF a b i k 0))) ∧ Below wo.heap.size wo wq) (fun i _ => n1' - (intOf i).toNat)
      case atStart => exact ⟨0, Nat.zero_le _, rfl, by rw [lineF_zero]; exact hz, below_alloc _ _⟩
      case round =>
        obtain ⟨k, hk, rfl, hq, hbq⟩ := hrel
        by_cases hltk : k < n1'
        · obtain ⟨b2, o2, x, rfl, hc2, HX2⟩ := HC1.out k hltk
          obtain ⟨b3, o3, u3, r3, hab3, hc3, HX3, hu3⟩ := HCb.out k hltk
          cases hab3
          obtain ⟨a3, n3, c3, rfl, HL3, hn3, HC3⟩ := hu3.open
          have hnn : n3 = n1' := by have := isMat_row HB.out HX3.out; have := HLb.out; have := HL3.out; omega
          subst hnn
          clear hu3
          have hbb := hbl.trans (hbq.mono hs)
          have k2 := cell_keep hbb hc2
          have k3 := cell_keep hbb hc3
          go_wp2
          go_loopw [37] (fun i' wq => ∃ j : Nat, j ≤ n3 ∧ i' = .int .i64 j ∧ Own 3 wo.heap.size wq (.slice (some ⟨wo.heap.size, 0, none⟩) n3 n3) (ints (rowF n3 (lineF a b i k j))) ∧ Below wo.heap.size wo wq) (fun i _ => n3 - (intOf i).toNat)
          case atStart => exact ⟨0, Nat.zero_le _, rfl, hq, hbq⟩
          case round =>
            obtain ⟨j, hj, rfl, hq, hbq⟩ := hrel
            by_cases hltj : j < n3
            · obtain ⟨b4, o4, y, rfl, hc4, HX4⟩ := HC3.out j hltj
              have k4 := cell_keep (hbl.trans (hbq.mono hs)) hc4
              obtain ⟨g, cg, hv, hgB, hgc, hgf, hst⟩ := hq.at (show (ints (rowF n3 (lineF a b i k j)))[j]? = some (.int .i64 (dot a b i j k)) by rw [ints_get?, rowF_get hltj, lineF_at]; rfl)
              simp only [Value.slice.injEq, Option.some.injEq, Addr.mk.injEq, and_true] at hv
              obtain ⟨hg, e2, e3⟩ := hv
              clear e2 e3
              subst hg
              have hd := dot_bd HA.out HB.out HL.out HLb.out hlt hltj k hk
              have ex := ent_of HX1.out HX2.out
              have ey := ent_of HX3.out HX4.out
              have hxy := mul_bd (isMat_num HA.out HX1.out HX2.out) (isMat_num HB.out HX3.out HX4.out)
              obtain ⟨d, hdd⟩ : ∃ d, dot a b i j k = d := ⟨_, rfl⟩
              obtain ⟨p, hp⟩ : ∃ p, x * y = p := ⟨_, rfl⟩
              rw [hdd] at hd hgc
              rw [hp] at hxy
              have HD : Hid (dot a b i j (k + 1) = d + p) := Lib.hid (by rw [dot, hdd, ex, ey, hp])
              have HST := Lib.hid (hst (.int .i64 (d + p))).1
              clear hdd ex ey hst hq
              have d0 := hd.1
              have d1 : d ≤ 9000000000000 := by have := hd.2; omega
              have p0 := hxy.1
              have p1 := hxy.2
              clear hd hxy
              go_wp2
              go_roundw
              case rel => exact ⟨j + 1, by omega, by go_num, by have h := HST.out; have h2 := lineF_step a b n3 i k j; rw [HD.out] at h2; rw [ints_set, h2] at h; exact h, hbq.setCell (Nat.le_refl _) _⟩
              case measure => simp [intOf]; omega
            · have e : j = n3 := by omega
              subst e
              go_wp2
              go_roundw
              case rel => exact ⟨k + 1, by omega, by go_num, by rw [← lineF_row]; exact hq, hbq⟩
              case measure => simp [intOf]; omega
        · have e : k = n1' := by omega
          subst e
          rw [lineF_all] at hq
          have hHq := hH.keep hbq
          have hsq := hbq.size
          have HL2 := Lib.hid (tabF_length i k (fun p q => dot a b p q k))
          go_wp2_with (at_builtin; refine appM 24 62 3 Tryz.underlying24 Tryz.infoInts (by decide) hHq hq hs hsq (by rw [HL2.out]; omega) rfl _ _ rfl rfl rfl (by simp) ?_)
          intro v' w1 ho1 hg _
          go_wp2
          go_roundw
          case rel => exact ⟨i + 1, by omega, by go_num, by rw [tabF_succ]; exact ho1, (hbl.trans (hbq.mono hs)).trans (grow_below hg (fun k hk => (ho.own k hk).1) (Nat.le_refl _) (by omega))⟩
          case measure => simp [intOf]; omega
    · have e : i = n0 := by omega
      subst e
      go_wp2
      go_ret
      exact ⟨_, rfl, ho, hbl⟩
set_option maxRecDepth 10000 in
set_option maxHeartbeats 400000 in
theorem ichecked (v : Value) (m : List (List Int)) (w : World) (h : Mat w v m) :
    Calls Tryz.prog 51 #[v] w fun e w' => e = .returned (.tuple #[if isMat m = true then v else .slice none 0 0, .bool (isMat m)]) ∧ w = w' := by
  cases hm : isMat m
  · have HI := Lib.hid hm; clear hm
    go_enter Tryz.func51, Tryz.ntmps51
    go_wp2_with (go_at_call 16; refine (iIsMatrix _ m _ h).mono ?_; rintro e w2 ⟨rfl, rfl⟩; rw [HI.out])
    go_ret2
    exact ⟨rfl, rfl⟩
  · have HI := Lib.hid hm; clear hm
    go_enter Tryz.func51, Tryz.ntmps51
    go_wp2_with (go_at_call 16; refine (iIsMatrix _ m _ h).mono ?_; rintro e w2 ⟨rfl, rfl⟩; rw [HI.out])
    go_ret2
    exact ⟨rfl, rfl⟩
theorem ret2 {a b c d : Value} (h : a = c) (k : b = d) : Ending.returned (.tuple #[a, b]) = .returned (.tuple #[c, d]) := by rw [h, k]
theorem val_bool {a b : Bool} (h : a = b) : Value.bool a = .bool b := by rw [h]
theorem mulOk_a {a b : List (List Int)} (h : isMat a = false) : mulOk a b = false := by unfold mulOk; rw [h, Bool.false_and]
theorem mulOk_b {a b : List (List Int)} (h : isMat b = false) : mulOk a b = false := by unfold mulOk; rw [h, Bool.false_and, Bool.and_false]
theorem mulOk_l {a b : List (List Int)} (h : ¬ a.length = b.length) : mulOk a b = false := by unfold mulOk; rw [decide_eq_false h, Bool.false_and, Bool.and_false, Bool.and_false]
theorem mulOk_p {a b : List (List Int)} (ha : isMat a = true) (hb : isMat b = true) (h : a.length = b.length) {c : Bool} (hp : isMat (prodM a b a.length) = c) : mulOk a b = c := by
  unfold mulOk; rw [ha, hb, decide_eq_true h, hp]; rfl
theorem mulM_no {a b : List (List Int)} (h : mulOk a b = false) : mulM a b = [] := by unfold mulM; rw [if_neg (by simp [h])]
theorem mulM_yes {a b : List (List Int)} (h : mulOk a b = true) : mulM a b = prodM a b a.length := by unfold mulM; rw [if_pos h]
theorem mulM_size (a b : List (List Int)) : (mulM a b).length + total (mulM a b) ≤ 4000000 := by
  cases h : mulOk a b
  · rw [mulM_no h]; decide
  · rw [mulM_yes h]
    have h9 : a.length ≤ 9 := by unfold mulOk at h; simp only [Bool.and_eq_true] at h; exact (isMat_len h.1).2
    exact tabF_small _ _ _ (by omega) (by omega)
set_option maxRecDepth 10000 in
set_option maxHeartbeats 400000 in
theorem iMultiplyMatrices (va vb : Value) (a b : List (List Int)) (w : World) (h : Mat w va a) (k : Mat w vb b) :
    Calls Tryz.prog 7 #[va, vb] w fun e w' => ∃ v', e = .returned (.tuple #[v', .bool (mulOk a b)]) ∧ OwnMat 62 3 w.heap.size w' v' (mulM a b) ∧ Below w.heap.size w w' := by
  cases ha : isMat a
  · have HA := Lib.hid ha
    have HO := Lib.hid (mulOk_a (b := b) ha); clear ha
    go_enter Tryz.func7, Tryz.ntmps7
    go_wp2_with (go_at_call 16; refine (iIsMatrix _ a _ h).mono ?_; rintro e w2 ⟨rfl, rfl⟩; rw [HA.out])
    go_ret2
    exact ⟨_, ret2 rfl (val_bool HO.out.symm), by rw [mulM_no HO.out]; exact OwnMat.nil _ _ _ _, Below.refl _ _⟩
  cases hb : isMat b
  · have HA := Lib.hid ha; clear ha
    have HB := Lib.hid hb
    have HO := Lib.hid (mulOk_b (a := a) hb); clear hb
    go_enter Tryz.func7, Tryz.ntmps7
    go_wp2_with fail
    refine (iIsMatrix _ a _ h).mono ?_
    rintro e w2 ⟨rfl, rfl⟩
    rw [HA.out]
    go_wp2_with fail
    refine (iIsMatrix _ b _ k).mono ?_
    rintro e w2 ⟨rfl, rfl⟩
    rw [HB.out]
    go_wp2
    go_ret2
    exact ⟨_, ret2 rfl (val_bool HO.out.symm), by rw [mulM_no HO.out]; exact OwnMat.nil _ _ _ _, Below.refl _ _⟩
  have HA := Lib.hid ha; clear ha
  have HB := Lib.hid hb; clear hb
  obtain ⟨aa, n, ca, rfl, HL, hn, -⟩ := h.open
  obtain ⟨ab, nb, cb, rfl, HLb, hnb, -⟩ := k.open
  by_cases hl : n = nb
  · subst hl
    have hab : a.length = b.length := by rw [HL.out, HLb.out]
    have HAB := Lib.hid hab; clear hab
    go_enter Tryz.func7, Tryz.ntmps7
    go_wp2_with fail
    refine (iIsMatrix _ a _ h).mono ?_
    rintro e w2 ⟨rfl, rfl⟩
    rw [HA.out]
    go_wp2_with fail
    refine (iIsMatrix _ b _ k).mono ?_
    rintro e w2 ⟨rfl, rfl⟩
    rw [HB.out]
    go_wp2_with fail
    refine (itimes _ _ a b _ h k HA.out HB.out HAB.out).mono ?_
    rintro e w2 ⟨v2, rfl, ho2, hb2⟩
    go_wp2_with fail
    refine (ichecked _ _ _ ho2.mat).mono ?_
    rintro e w3 ⟨rfl, rfl⟩
    cases hp : isMat (prodM a b a.length)
    · have HO := Lib.hid (mulOk_p HA.out HB.out HAB.out hp); clear hp
      rw [if_neg (by simp)]
      go_wp2
      go_ret2
      exact ⟨_, ret2 rfl (val_bool HO.out.symm), by rw [mulM_no HO.out]; exact OwnMat.nil _ _ _ _, hb2⟩
    · have HO := Lib.hid (mulOk_p HA.out HB.out HAB.out hp); clear hp
      rw [if_pos rfl]
      go_wp2
      go_ret2
      exact ⟨_, ret2 rfl (val_bool HO.out.symm), by rw [mulM_yes HO.out]; exact ho2, hb2⟩
  · have HO := Lib.hid (mulOk_l (a := a) (b := b) (by rw [HL.out, HLb.out]; exact hl))
    go_enter Tryz.func7, Tryz.ntmps7
    go_wp2_with fail
    refine (iIsMatrix _ a _ h).mono ?_
    rintro e w2 ⟨rfl, rfl⟩
    rw [HA.out]
    go_wp2_with fail
    refine (iIsMatrix _ b _ k).mono ?_
    rintro e w2 ⟨rfl, rfl⟩
    rw [HB.out]
    go_wp2
    go_ret2
    exact ⟨_, ret2 rfl (val_bool HO.out.symm), by rw [mulM_no HO.out]; exact OwnMat.nil _ _ _ _, Below.refl _ _⟩
set_option maxRecDepth 10000 in
set_option maxHeartbeats 400000 in
theorem sMultiplyMatrices (va vb : Value) (a b : List (List Int)) (w : World) (h : Mat w va a) (k : Mat w vb b) :
    Calls Tryz.prog 8 #[va, vb] w fun e w' => ∃ v', e = .returned (.tuple #[v', .bool (mulOk a b)]) ∧ OwnMat 62 3 w.heap.size w' v' (mulM a b) ∧ Below w.heap.size w w' := by
  cases ha : isMat a
  · have HA := Lib.hid ha
    have HO := Lib.hid (mulOk_a (b := b) ha); clear ha
    go_enter Tryz.func8, Tryz.ntmps8
    go_wp2_with (go_at_call 17; refine (sIsMatrix _ a _ h).mono ?_; rintro e w2 ⟨rfl, rfl⟩; rw [HA.out])
    go_ret2
    exact ⟨_, ret2 rfl (val_bool HO.out.symm), by rw [mulM_no HO.out]; exact OwnMat.empty _ _ _, below_alloc _ _⟩
  cases hb : isMat b
  · have HA := Lib.hid ha; clear ha
    have HB := Lib.hid hb
    have HO := Lib.hid (mulOk_b (a := a) hb); clear hb
    go_enter Tryz.func8, Tryz.ntmps8
    go_wp2_with fail
    refine (sIsMatrix _ a _ h).mono ?_
    rintro e w2 ⟨rfl, rfl⟩
    rw [HA.out]
    go_wp2_with fail
    refine (sIsMatrix _ b _ k).mono ?_
    rintro e w2 ⟨rfl, rfl⟩
    rw [HB.out]
    go_wp2
    go_ret2
    exact ⟨_, ret2 rfl (val_bool HO.out.symm), by rw [mulM_no HO.out]; exact OwnMat.empty _ _ _, below_alloc _ _⟩
  have HA := Lib.hid ha; clear ha
  have HB := Lib.hid hb; clear hb
  obtain ⟨aa, n, ca, rfl, HL, hn, -⟩ := h.open
  obtain ⟨ab, nb, cb, rfl, HLb, hnb, -⟩ := k.open
  by_cases hl : n = nb
  · subst hl
    have hab : a.length = b.length := by rw [HL.out, HLb.out]
    have HAB := Lib.hid hab
    have HT := Lib.hid (sTimes (.slice aa n ca) (.slice ab n cb) a b w h k HA.out HB.out hab)
    clear hab
    go_enter Tryz.func8, Tryz.ntmps8
    go_wp2_with fail
    refine (sIsMatrix _ a _ h).mono ?_
    rintro e w2 ⟨rfl, rfl⟩
    rw [HA.out]
    go_wp2_with fail
    refine (sIsMatrix _ b _ k).mono ?_
    rintro e w2 ⟨rfl, rfl⟩
    rw [HB.out]
    go_wp2_with fail
    have ht := HT.out
    rw [HL.out] at ht
    refine ht.mono ?_
    clear ht
    rintro e w2 ⟨v2, rfl, ho2, hb2⟩
    go_wp2_with fail
    refine (sIsMatrix _ _ _ ho2.mat).mono ?_
    rintro e w3 ⟨rfl, rfl⟩
    cases hp : isMat (prodM a b n)
    · have HO := Lib.hid (mulOk_p (c := false) HA.out HB.out HAB.out (by rw [HL.out]; exact hp)); clear hp
      go_wp2
      go_ret2
      exact ⟨_, ret2 rfl (val_bool HO.out.symm), by rw [mulM_no HO.out]; exact (OwnMat.empty _ _ _).mono hb2.size, (hb2.alloc hb2.size _)⟩
    · have HO := Lib.hid (mulOk_p (c := true) HA.out HB.out HAB.out (by rw [HL.out]; exact hp)); clear hp
      go_wp2
      go_ret2
      exact ⟨_, ret2 rfl (val_bool HO.out.symm), by rw [mulM_yes HO.out, HL.out]; exact ho2, hb2⟩
  · have HO := Lib.hid (mulOk_l (a := a) (b := b) (by rw [HL.out, HLb.out]; exact hl))
    go_enter Tryz.func8, Tryz.ntmps8
    go_wp2_with fail
    refine (sIsMatrix _ a _ h).mono ?_
    rintro e w2 ⟨rfl, rfl⟩
    rw [HA.out]
    go_wp2_with fail
    refine (sIsMatrix _ b _ k).mono ?_
    rintro e w2 ⟨rfl, rfl⟩
    rw [HB.out]
    go_wp2
    go_ret2
    exact ⟨_, ret2 rfl (val_bool HO.out.symm), by rw [mulM_no HO.out]; exact OwnMat.empty _ _ _, below_alloc _ _⟩
end Go.Proofs.YtkohadoicebojaaGreatDoor
