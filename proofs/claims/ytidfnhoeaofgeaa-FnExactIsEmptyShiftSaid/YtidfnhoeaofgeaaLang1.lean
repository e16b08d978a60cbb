/- The program's words of two letters that go on without end. No statement is proved here. -/
import Derived.Test.YtidfnhoeaofgeaaLangP
import Derived.Test.YtidfnhoeaofgeaaLivOf
import Derived.Deep.RegionHeld3
namespace Go.Proofs.Ytidfnhoeaofgeaa
open Go.RowKit Go.Deep
theorem getD_get {α : Type} {l : List α} {i : Nat} {x z : α} (h : l[i]? = some x) : l.getD i z = x := by simp [List.getD, h]
theorem fol_eq {f : List ByteArray} {u v y : ByteArray} {c d : UInt8} (hu : (bts u)[1]? = some c) (hv : (bts v)[0]? = some d) (hy : u ++ v.extract 1 v.size = y) : fol f u v = (decide (c = d) && avo f y) := by
  unfold fol; rw [getD_get hu, getD_get hv, hy]
theorem idxE_eq {f L : List ByteArray} {i j : Nat} {u v : ByteArray} (hu : L[i]? = some u) (hv : L[j]? = some v) : idxE ByteArray.empty (fol f) L i j = fol f u v := by
  unfold idxE; rw [getD_get hu, getD_get hv]
theorem u8_ne {c d : UInt8} (h : c ≠ d) : ((c.toNat : Int) == (d.toNat : Int)) = false := by
  refine beq_eq_false_iff_ne.2 fun e => h (UInt8.toNat_inj.1 (by omega))
theorem ints_append' (l : List Int) (x : Int) : ints (l ++ [x]) = ints l ++ [.int .i64 x] := by simp [ints]
set_option maxRecDepth 10000 in
set_option maxHeartbeats 800000 in
theorem istates (k : Nat) (v : Value) (l : List ByteArray) (w : World) (hm : Ml w) (h : Strs w v l) (hk1 : 1 ≤ k) (hk : k ≤ 3) :
    Calls Try.prog 70 #[.agg #[.int .i64 k, v]] w fun e w' => ∃ v', e = .returned v' ∧ OwnS 9 w.heap.size w' v' (pairs k l) ∧ Below w.heap.size w w' := by
  have hb0 := below_alloc w (.cells #[.int .i64 k, v] 30)
  have c0 : (w.alloc (.cells #[.int .i64 k, v] 30)).cell? ⟨w.heap.size, 0, none⟩ = some (.int .i64 k) := by simp
  have c1 : (w.alloc (.cells #[.int .i64 k, v] 30)).cell? ⟨w.heap.size, 1, none⟩ = some v := by simp
  have z0 : (w.alloc (.cells #[.int .i64 k, v] 30)).heap.size = w.heap.size + 1 := by simp
  have n9 := pairs0_len (f := l) hk
  obtain ⟨n, hn⟩ : ∃ n, (pairs0 k l).length = n := ⟨_, rfl⟩
  rw [hn] at n9
  have HN := Lib.hid hn; clear hn
  have HPZ : Hid (∀ x ∈ pairs0 k l, x.size = 2) := Lib.hid fun x hx => (pairs0_in hx).1
  obtain ⟨av, nv, cv, rfl, -⟩ := h.open
  go_enter Try.func70, Try.ntmps70
  go_wp2_with fail
  refine (ifiltA k _ l k 2 _ (hm.keep hb0) (h.keep hb0) hk1 hk (by omega)).mono ?_
  rintro e w2 ⟨v2, rfl, ho2, hb2⟩
  obtain ⟨a2, c2, rfl⟩ := Own.form ho2 (show (strs (pairs0 k l)).length = n by rw [strs_length]; exact HN.out)
  have q0 := cell_keep hb2 c0
  have q1 := cell_keep hb2 c1
  have b2 := hb0.trans (hb2.mono hb0.size)
  have z2 := hb2.size
  rw [z0] at z2
  have hm2 := hm.keep b2
  have hl2 := h.keep b2
  have hS2 : Strs w2 (.slice a2 n c2) (pairs0 k l) := ho2.strs
  obtain ⟨a3, n3, c3, hv3, -, hn3, HC⟩ := hS2.open
  cases hv3
  clear hb0 c0 c1 z0 hb2 ho2 hm h
  obtain ⟨E, hE⟩ : ∃ E, idxE ByteArray.empty (fol l) (pairs0 k l) = E := ⟨_, rfl⟩
  have HE : Hid (idxE ByteArray.empty (fol l) (pairs0 k l) = E) := Lib.hid hE
  clear hE
  go_wp2
  go_loopw [4, 21] (fun nx i wr => ∃ a : Nat, a ≤ n ∧ i = .int .i64 a ∧ OwnMat 75 3 w2.heap.size wr nx (nxTo E n a) ∧ Below w2.heap.size w2 wr) (fun _ i _ => n - (intOf i).toNat)
  case atStart => exact ⟨0, Nat.zero_le _, rfl, OwnMat.empty _ _ _, below_alloc _ _⟩
  case round =>
    obtain ⟨i, hi, rfl, ho, hbl⟩ := hrel
    obtain ⟨wo, rfl⟩ : ∃ wo : World, wo = wr := ⟨_, rfl⟩
    have hs := hbl.size
    by_cases hlti : i < n
    · obtain ⟨b, off, u, rfl, hcu, HU⟩ := HC.out i hlti
      have hus1 : u.size ≤ 2 := by rw [HPZ.out u (List.mem_of_getElem? HU.out)]; omega
      have hus2 : 1 < u.size := by rw [HPZ.out u (List.mem_of_getElem? HU.out)]; omega
      have hcu1 := cell_keep hbl hcu
      clear hcu
      obtain ⟨bu, hbu, HBU, hbu9⟩ := byte_at hus2
      have hH := ho.toH
      go_wp2
      go_loopw [7, 28] (fun q j wq => ∃ j' : Nat, j' ≤ n ∧ j = .int .i64 j' ∧ Own 3 wo.heap.size wq q (ints (lvTo (E i) j')) ∧ Below wo.heap.size wo wq) (fun _ j _ => n - (intOf j).toNat)
      case atStart => exact ⟨0, Nat.zero_le _, rfl, Own.empty _ _, below_alloc _ _⟩
      case round =>
        obtain ⟨j, hj, rfl, hq, hbq⟩ := hrel
        have hsq := hbq.size
        have HLQ := Lib.hid (lvTo_len (E i) j)
        by_cases hltj : j < n
        · obtain ⟨b', off', x, hab, hcx, HX⟩ := HC.out j hltj
          cases hab
          have hxs1 : x.size ≤ 2 := by rw [HPZ.out x (List.mem_of_getElem? HX.out)]; omega
          have hxs2 : 1 < x.size := by rw [HPZ.out x (List.mem_of_getElem? HX.out)]; omega
          have hxs3 : 1 ≤ x.size := by omega
          have hxs0 : 0 < x.size := by omega
          have hxs4 : (1 : Int) ≤ (x.size : Int) := by omega
          have hbw := hbl.trans (hbq.mono hs)
          have hcx1 := cell_keep hbw hcx
          have d0 := cell_keep hbw q0
          have d1 := cell_keep hbw q1
          clear hcx
          obtain ⟨bx, hbx, HBX, hbx9⟩ := byte_at hxs0
          obtain ⟨y, hy⟩ : ∃ y, u ++ x.extract 1 x.size = y := ⟨_, rfl⟩
          have HY := Lib.hid hy
          have HV : Hid (E i j = (decide (bu = bx) && avo l y)) := Lib.hid (by rw [← HE.out, idxE_eq HU.out HX.out, fol_eq HBU.out HBX.out hy])
          clear hy
          by_cases hcd : bu = bx
          · have hcd2 : ((bu.toNat : Int) == (bx.toNat : Int)) = true := by rw [hcd]; simp
            have hxe : (x.extract 1 x.size).size ≤ 2 := by rw [ByteArray.size_extract]; omega
            have hadd : (Op.stringOp .add u (x.extract 1 x.size)).run Try.prog = fun w => .ok (.string y) w := by funext w; rw [run_string_add_if, if_neg (by omega), HY.out]
            have hys : y.size ≤ 1048576 := by rw [← HY.out, ByteArray.size_append]; omega
            have hmd : Ml wr.drew := hm2.keep hbw.drew
            have hld : Strs wr.drew (.slice av nv cv) l := hl2.keep hbw.drew
            have hqd : Own 3 wo.heap.size wr.drew _ (ints (lvTo (E i) j)) := hq
            have hbqd : Below wo.heap.size wo wr.drew := hbq.drew
            have d0d : wr.drew.cell? ⟨w.heap.size, 0, none⟩ = some (.int .i64 k) := d0
            have d1d : wr.drew.cell? ⟨w.heap.size, 1, none⟩ = some (.slice av nv cv) := d1
            obtain ⟨bb, hA⟩ : ∃ bb, avo l y = bb := ⟨_, rfl⟩
            have HA := Lib.hid hA
            have HS : Hid (lvTo (E i) (j + 1) = lvTo (E i) j ++ (if bb = true then [(j : Int)] else [])) := Lib.hid (by rw [lvTo, HV.out, hA, decide_eq_true hcd, Bool.true_and])
            clear hA
            go_wp2
            go_region_held3 (fun w' => w'.cell? ⟨w.heap.size, 0, none⟩ = some (.int .i64 k) ∧ w'.cell? ⟨w.heap.size, 1, none⟩ = some (.slice av nv cv))
              (first | (exact ⟨d0, d1⟩) | (exact ⟨d0d, d1d⟩) | (exact ⟨e0, e1⟩) | go_keep)
              ((go_at_call 60; refine (iavoids k _ l y _ hmd hld hys).mono ?_; rintro e w3 ⟨rfl, hb3⟩; rw [HA.out]; have e0 := cell_keep (w := wr.drew) hb3 d0d; have e1 := cell_keep (w := wr.drew) hb3 d1d))
            all_goals
              have hb4 := hbqd.trans (hb3.mono hbqd.size)
              have hq4 := hqd.keep hb3
              have hs4 := hb4.size
              clear hb3 hqd hbqd d0 d1 d0d d1d hmd hld e0 e1 hadd hcx1
              cases bb
              · go_wp2
                go_roundw
                case rel => exact ⟨j + 1, by omega, by go_num, by rw [HS.out]; simpa using hq4, hb4⟩
                case measure => simp [intOf]; omega
              · go_wp2_with (at_builtin; refine app1 75 3 8 (.int .i64 0) Try.underlying75 Try.infoInt rfl hq4 (.int .i64 j) rfl ?h1 ?h2 hs4 rfl _ _ rfl rfl rfl (by simp) ?_)
                case h1 => rw [ints_length]; have := HLQ.out; unfold maxLen; omega
                case h2 => rw [ints_length]; have := HLQ.out; omega
                intro q' w5 hq5 hg _
                go_wp2
                go_roundw
                case rel => exact ⟨j + 1, by omega, by go_num, by rw [HS.out, if_pos trivial, ints_append']; exact hq5, hb4.trans (hq4.below hg (Nat.le_refl _) hs4)⟩
                case measure => simp [intOf]; omega
          · have HS : Hid (lvTo (E i) (j + 1) = lvTo (E i) j) := Lib.hid (by rw [lvTo, HV.out, decide_eq_false hcd]; simp)
            have hne := u8_ne hcd
            go_wp2
            go_quiet (fail)
            go_wp2
            go_roundw
            case rel => exact ⟨j + 1, by omega, by go_num, by rw [HS.out]; exact hq.keep (below_drewN _ _), hbq.trans ((below_drewN _ _).mono hsq)⟩
            case measure => simp [intOf]; omega
        · have e : n = j := by omega
          subst e
          have hHq := hH.keep hbq
          obtain ⟨aq, cq, hqf⟩ := hq.form rfl
          subst hqf
          have HNL := Lib.hid (nxTo_length E n i)
          go_wp2_with (at_builtin; refine appM 96 75 3 Try.underlying96 Try.infoInts (by decide) hHq hq hs hsq (by rw [HNL.out]; omega) rfl _ _ rfl rfl rfl (by simp) ?_)
          intro q' w3 hq3 hg hsz3
          have hb3 := (hbl.trans (hbq.mono hs)).trans (grow_below hg (fun k hk => (ho.own k hk).1) (Nat.le_refl _) (by omega))
          go_wp2
          go_roundw
          case rel => exact ⟨i + 1, by omega, by go_num, by rw [nxTo_succ]; exact hq3, hb3⟩
          case measure => simp [intOf]; omega
    · have e : n = i := by omega
      subst e
      have hRR : ∀ (a : Nat) (r : List Int), (nxTo E n n)[a]? = some r → r.length ≤ 4000000 ∧ ∀ x ∈ r, 0 ≤ x ∧ x < n := fun a r hr => nxTo_rows hr (by omega)
      have HLV := Lib.hid (lv_nxTo E n)
      have HPK : Hid (pick ByteArray.empty (lv E n) (pairs0 k l) n = pairs k l) := Lib.hid (by rw [← HE.out]; exact pick_core HN.out)
      obtain ⟨L, hL⟩ : ∃ L, lv E n = L := ⟨_, rfl⟩
      have hwa := below_alloc wo (.cells #[] 9)
      have hoa := ho.mat.keep hwa
      go_wp2_with fail
      refine (ilively _ _ _ hoa n (nxTo_length _ _ _) (by omega) hRR).mono ?_
      rintro e w4 ⟨v4, rfl, hse, hb4⟩
      rw [HLV.out, hL] at hse
      rw [hL] at HPK
      clear hL HLV
      obtain ⟨a4, c4, hv4⟩ := hse.form (bls_length n L)
      subst hv4
      have how := (Own.empty 9 wo).keep hb4
      have hz4 := hb4.size
      have hz5 : wo.heap.size + 1 ≤ w4.heap.size := by simpa using hz4
      have b4 : Below w2.heap.size w2 w4 := hbl.trans ((hwa.trans (hb4.mono hwa.size)).mono hs)
      clear hoa hwa ho hbl hz4 hb4
      go_wp2
      go_loopw [10, 60] (fun q i wq => ∃ a : Nat, a ≤ n ∧ i = .int .i64 a ∧ Own 9 wo.heap.size wq q (strs (pick ByteArray.empty L (pairs0 k l) a)) ∧ Own 4 (wo.heap.size + 1) wq (.slice a4 n c4) (bls n L) ∧ Below w2.heap.size w2 wq ∧ wo.heap.size + 1 ≤ wq.heap.size) (fun _ i _ => n - (intOf i).toNat)
      case atStart => exact ⟨0, Nat.zero_le _, rfl, how, hse.mono (by simp), b4, hz5⟩
      case round =>
        clear how hse b4 hz5
        obtain ⟨i, hi, rfl, ho, hse, hb, hz⟩ := hrel
        by_cases hlt : i < n
        · obtain ⟨gs, cs, hv, -, hgs1, hfr, -⟩ := hse.at (bls_get (g := L) hlt)
          rw [bls_length] at hv
          obtain ⟨rfl, -⟩ := slice_inj1 hv
          clear hv
          obtain ⟨b, off, x, rfl, hcx, HX⟩ := HC.out i hlt
          have hcx1 := cell_keep hb hcx
          have HLN := Lib.hid (pick_len ByteArray.empty L (pairs0 k l) i)
          have hs5 := hb.size
          have HS : Hid (pick ByteArray.empty L (pairs0 k l) (i + 1) = pick ByteArray.empty L (pairs0 k l) i ++ (if L i = true then [x] else [])) := Lib.hid (by rw [pick, getD_get HX.out])
          obtain ⟨t, ht⟩ : ∃ t, L i = t := ⟨_, rfl⟩
          rw [ht] at hgs1 HS
          clear ht hcx
          cases t
          · go_wp2
            go_roundw
            case rel => exact ⟨i + 1, by omega, by go_num, by rw [HS.out]; simpa using ho, hse, hb, hz⟩
            case measure => simp [intOf]; omega
          · have hne := (Own.other hse ho (by decide))
            go_wp2_with (at_builtin; refine app1 25 9 16 (.string ByteArray.empty) Try.underlying25 Try.infoStr rfl ho (.string x) rfl ?h1 ?h2 (by omega) rfl _ _ rfl rfl rfl (by simp) ?_)
            case h1 => rw [strs_length]; have := HLN.out; unfold maxLen; omega
            case h2 => rw [strs_length]; have := HLN.out; omega
            intro q' w3 hq3 hg hsz3
            have hse3 := hse.grown hg hne
            go_wp2
            go_roundw
            case rel => exact ⟨i + 1, by omega, by go_num, by rw [HS.out, if_pos trivial, strs_append]; exact hq3, hse3, hb.trans (ho.below hg hs hs5), by omega⟩
            case measure => simp [intOf]; omega
        · have e : n = i := by omega
          subst e
          have b9 := b2.trans (hb.mono b2.size)
          go_wp2
          go_ret
          exact ⟨_, rfl, by rw [← HPK.out]; exact Own.mono ho (Nat.le_trans b2.size hs), b9⟩
end Go.Proofs.Ytidfnhoeaofgeaa
