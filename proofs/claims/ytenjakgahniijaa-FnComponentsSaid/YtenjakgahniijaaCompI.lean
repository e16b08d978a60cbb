/- The components, as the implementation finds them: with marks on the vertices that were told. No statement is proved here. -/
import Derived.Test.YtenjakgahniijaaComp
namespace Go.Proofs.Ytenjakgahniijaa
open Go.RowKit Go.Deep
def bls (n : Nat) (g : Nat → Bool) : List Value := (List.range n).map fun j => .bool (g j)
theorem bls_length (n : Nat) (g : Nat → Bool) : (bls n g).length = n := by simp [bls]
theorem bls_get {n j : Nat} {g : Nat → Bool} (h : j < n) : (bls n g)[j]? = some (.bool (g j)) := by simp [bls, h]
theorem bls_congr {n : Nat} {g g' : Nat → Bool} (h : ∀ j, j < n → g j = g' j) : bls n g = bls n g' := by
  unfold bls; exact List.map_congr_left fun j hj => by rw [h j (List.mem_range.1 hj)]
theorem bls_set (n j : Nat) (g : Nat → Bool) (y : Bool) : (bls n g).set j (.bool y) = bls n fun b => if b = j then y else g b := by
  apply List.ext_getElem?
  intro a
  rw [List.getElem?_set]
  by_cases ha : a < n
  · by_cases e : j = a
    · subst e; rw [if_pos rfl, if_pos (by rw [bls_length]; exact ha), bls_get ha, if_pos rfl]
    · rw [if_neg e, bls_get ha, bls_get ha, if_neg (fun h => e h.symm)]
  · rw [List.getElem?_eq_none (by rw [bls_length]; omega)]
    by_cases e : j = a
    · rw [if_pos e, if_neg (by rw [bls_length]; omega), List.getElem?_eq_none (by rw [bls_length]; omega)]
    · rw [if_neg e, List.getElem?_eq_none (by rw [bls_length]; omega)]
/-- The marks while vertex i's component is told, up to j. -/
def seenT (R : Nat → Nat → Int) (n i j : Nat) : Nat → Bool := fun b => seenF R n i b || (decide (b < j) && both R i b)
theorem seenT_zero (R : Nat → Nat → Int) (n i : Nat) : bls n (seenT R n i 0) = bls n (seenF R n i) := bls_congr fun j _ => by simp [seenT]
theorem seenT_all {R : Nat → Nat → Int} {n i : Nat} (h : isHd R n i = true) : bls n (seenT R n i n) = bls n (seenF R n (i + 1)) := bls_congr fun j hj => by simp [seenT, seenF, h, hj]
theorem seenT_yes {R : Nat → Nat → Int} {n i j : Nat} (h : both R i j = true) : (bls n (seenT R n i j)).set j (.bool true) = bls n (seenT R n i (j + 1)) := by
  rw [bls_set]
  refine bls_congr fun b _ => ?_
  by_cases e : b = j
  · subst e; simp [seenT, h]
  · rw [if_neg e]
    have : decide (b < j) = decide (b < j + 1) := by simp; omega
    simp only [seenT, this]
theorem seenT_no {R : Nat → Nat → Int} {n i j : Nat} (h : both R i j = false) : bls n (seenT R n i j) = bls n (seenT R n i (j + 1)) := bls_congr fun b _ => by
  by_cases e : b = j
  · subst e; simp [seenT, h]
  · have : decide (b < j) = decide (b < j + 1) := by simp; omega
    simp only [seenT, this]
theorem seenF_no {R : Nat → Nat → Int} {n i : Nat} (h : isHd R n i = false) : bls n (seenF R n i) = bls n (seenF R n (i + 1)) := bls_congr fun b _ => by simp [seenF, h]
theorem isHd_eq {R : Nat → Nat → Int} {n i : Nat} (hB : Bits R) (hT : Tr n n R) (hi : i < n) : isHd R n i = (!seenF R n i i && !decide (R i i = 0)) := by
  rw [Bool.eq_iff_iff, isHd_seen hB hT hi]
  simp
theorem Own.falses (e : TypeId) (w : World) (n : Nat) (hn : n ≤ 4000000) : Own e w.heap.size (w.alloc (.cells (madeCells #[.bool false] n) e)) (.slice (some ⟨w.heap.size, 0, none⟩) n n) (bls n fun _ => false) :=
  Own.of_rowIs (World.rowIs_made _ _ _ _) (Nat.le_refl _) (bls_length _ _) (by unfold maxLen; omega) (fun i hi => by rw [bls_get hi])
theorem Try.underlying51 : Try.prog.underlying 51 = some (.slice 4) := by kernel_rfl
theorem Try.infoBool : (Try.prog.info? 4).map (fun i => (i.zero, i.size, i.bytes)) = some (some (.bool false), 1, 1) := by kernel_rfl
set_option maxRecDepth 10000 in
set_option maxHeartbeats 400000 in
theorem iComponentsOf (v : Value) (m : List (List Int)) (w : World) (h : Mat w v m) :
    Calls Try.prog 31 #[v] w fun e w' => ∃ v', e = .returned v' ∧ OwnMat 28 3 w.heap.size w' v' (compsOf m) ∧ Below w.heap.size w w' := by
  cases hm : isMat m
  · have HI := Lib.hid hm; clear hm
    go_enter Try.func31, Try.ntmps31
    go_wp2_with (go_at_call 54; refine (iIsMatrix _ m _ h).mono ?_; rintro e w2 ⟨rfl, rfl⟩; rw [HI.out])
    go_ret
    exact ⟨_, rfl, by rw [compsOf_no HI.out]; exact OwnMat.nil _ _ _ _, Below.refl _ _⟩
  have h0 := h
  obtain ⟨a, n, cap, rfl, HL, hn, -⟩ := h0.open
  clear h0
  have n9 : n ≤ 9 := by have := (isMat_len hm).2; have := HL.out; omega
  have HC := Lib.hid (compsOf_yes hm HL.out)
  have HR := Lib.hid (reachM_rF hm HL.out)
  have HI := Lib.hid hm; clear hm
  have HB := Lib.hid (rF_bits m n)
  have HT := Lib.hid (rF_tr m n)
  have hmk := fun w => run_make_row' (P := Try.prog) 51 4 (.bool false) 1 Try.underlying51 Try.infoBool rfl .i64 .i64 n (by omega) (by omega) w
  go_enter Try.func31, Try.ntmps31
  go_wp2_with (first | (go_at_call 54; refine (iIsMatrix _ m _ h).mono ?_; rintro e w2 ⟨rfl, rfl⟩; rw [HI.out]) | (go_at_call 69; refine (ireach _ m _ h HI.out).mono ?_; rintro e w1 ⟨v1, rfl, ho1, hb1⟩; rw [HR.out] at ho1; obtain ⟨av, cv, hv⟩ := ho1.form; rw [tabF_length] at hv; subst hv))
  have hs1 := hb1.size
  have hse0 := Own.falses 4 w1 n (by omega)
  have hse1 := hse0.keep (below_alloc _ (.cells #[] 28))
  have hro := (ho1.toH.keep (below_alloc w1 (.cells (madeCells #[.bool false] n) 4))).keep (below_alloc _ (.cells #[] 28))
  have how := OwnMat.empty 28 3 (w1.alloc (.cells (madeCells #[.bool false] n) 4))
  have hbw : Below w.heap.size w ((w1.alloc (.cells (madeCells #[.bool false] n) 4)).alloc (.cells #[] 28)) := (hb1.alloc hs1 _).alloc (by simp; omega) _
  go_loopw [5, 20] (fun v i wr => ∃ k : Nat, k ≤ n ∧ i = .int .i64 k ∧ OwnMat 28 3 (w1.heap.size + 1) wr v (compTo (rF m n) n k) ∧ Own 4 w1.heap.size wr (.slice (some ⟨w1.heap.size, 0, none⟩) n n) (bls n (seenF (rF m n) n k)) ∧ OwnMatH 28 3 w.heap.size w1.heap.size wr (.slice av n cv) (tabF n n (rF m n)) ∧ Below w.heap.size w wr ∧ w1.heap.size + 1 ≤ wr.heap.size) (fun _ i _ => n - (intOf i).toNat)
  case atStart => exact ⟨0, Nat.zero_le _, rfl, by simpa [compTo] using how, hse1, hro, hbw, by simp⟩
  case round =>
    obtain ⟨i, hi, rfl, ho, hse, hR, hbl, hsz⟩ := hrel
    obtain ⟨wo, rfl⟩ : ∃ wo : World, wo = wr := ⟨_, rfl⟩
    by_cases hlti : i < n
    · have hM := hR.toM
      obtain ⟨g, cg, gi, ci, hv, hg1, hg2, -, -, -⟩ := hM.at2 (by decide) (tabF_get hlti) (rowF_get hlti)
      rw [tabF_length] at hv
      rw [rowF_length] at hg1
      obtain ⟨rfl, rfl⟩ := slice_inj1 hv
      clear hM hv
      obtain ⟨gs, cs, hv, -, hgs, -, -⟩ := hse.at (bls_get (g := seenF (rF m n) n i) hlti)
      rw [bls_length] at hv
      simp only [Value.slice.injEq, Option.some.injEq, Addr.mk.injEq] at hv
      obtain ⟨⟨hgw, -⟩, -⟩ := hv
      subst hgw
      have HHD := Lib.hid (isHd_eq HB.out HT.out hlti)
      have bx := HB.out i i
      obtain ⟨s, hsn⟩ : ∃ s, seenF (rF m n) n i i = s := ⟨_, rfl⟩
      obtain ⟨x, hx⟩ : ∃ x, rF m n i i = x := ⟨_, rfl⟩
      rw [hsn] at hgs HHD
      rw [hx] at hg2 bx HHD
      clear hsn hx
      cases s
      case true =>
        have HN2 : Hid (compTo (rF m n) n (i + 1) = compTo (rF m n) n i) := Lib.hid (by rw [compTo, HHD.out]; simp)
        have HN3 := Lib.hid (seenF_no (by rw [HHD.out]; rfl : isHd (rF m n) n i = false))
        go_wp2
        go_roundw
        case rel => exact ⟨i + 1, by omega, by go_num, by rw [HN2.out]; exact ho, by rw [← HN3.out]; exact hse, hR, hbl, hsz⟩
        case measure => simp [intOf]; omega
      case false =>
      rcases bx with rfl | rfl
      · have HN2 : Hid (compTo (rF m n) n (i + 1) = compTo (rF m n) n i) := Lib.hid (by rw [compTo, HHD.out]; simp)
        have HN3 := Lib.hid (seenF_no (by rw [HHD.out]; rfl : isHd (rF m n) n i = false))
        go_wp2
        go_roundw
        case rel => exact ⟨i + 1, by omega, by go_num, by rw [HN2.out]; exact ho, by rw [← HN3.out]; exact hse, hR, hbl, hsz⟩
        case measure => simp [intOf]; omega
      · have hd : isHd (rF m n) n i = true := by rw [HHD.out]; rfl
        have HN2 : Hid (compTo (rF m n) n (i + 1) = compTo (rF m n) n i ++ [clsTo (rF m n) i n]) := Lib.hid (by rw [compTo, hd]; simp)
        have HN3 := Lib.hid (seenT_all hd)
        clear hd HHD
        have hH := ho.toH
        have hs := hbl.size
        have hse2 := (seenT_zero (rF m n) n i) ▸ hse
        have hhs := hsz
        go_wp2
        go_loopw [7, 40] (fun q j wq => ∃ j' : Nat, j' ≤ n ∧ j = .int .i64 j' ∧ Own 3 wo.heap.size wq q (ints (clsTo (rF m n) i j')) ∧ Own 4 w1.heap.size wq (.slice (some ⟨w1.heap.size, 0, none⟩) n n) (bls n (seenT (rF m n) n i j')) ∧
          OwnMatH 28 3 w.heap.size w1.heap.size wq (.slice (some ⟨g, 0, none⟩) n cg) (tabF n n (rF m n)) ∧ OwnMatH 28 3 (w1.heap.size + 1) wo.heap.size wq u5 (compTo (rF m n) n i) ∧ Below w.heap.size w wq ∧ wo.heap.size + 1 ≤ wq.heap.size) (fun _ j _ => n - (intOf j).toNat)
        case atStart => exact ⟨0, Nat.zero_le _, rfl, Own.empty _ _, hse2.keep (below_alloc _ _), hR.keep (below_alloc _ _), hH.keep (below_alloc _ _), hbl.alloc hs _, by simp⟩
        case round =>
          obtain ⟨j, hj, rfl, hq, hsq, hRq, hHq, hbq, hszq⟩ := hrel
          by_cases hltj : j < n
          · have hM := hRq.toM
            obtain ⟨g1, cg1, gi1, ci1, hv, hg3, hg4, -, -, -⟩ := hM.at2 (by decide) (tabF_get hlti) (rowF_get hltj)
            obtain ⟨g2, cg2, gj, cj, hv2, hg5, hg6, -, -, -⟩ := hM.at2 (by decide) (tabF_get hltj) (rowF_get hlti)
            rw [tabF_length] at hv hv2
            rw [rowF_length] at hg3 hg5
            simp only [Value.slice.injEq, Option.some.injEq, Addr.mk.injEq] at hv hv2
            obtain ⟨⟨e1, -⟩, -⟩ := hv
            obtain ⟨⟨e2, -⟩, -⟩ := hv2
            subst e1 e2
            clear hM
            have bx := HB.out i j
            have bby := HB.out j i
            obtain ⟨x, hx⟩ : ∃ x, rF m n i j = x := ⟨_, rfl⟩
            obtain ⟨y, hy⟩ : ∃ y, rF m n j i = y := ⟨_, rfl⟩
            have HMU : Hid (both (rF m n) i j = (decide (x = 1) && decide (y = 1))) := Lib.hid (by unfold both; rw [hx, hy])
            rw [hx] at hg4 bx
            rw [hy] at hg6 bby
            clear hx hy
            have HLQ := Lib.hid (clsTo_len (rF m n) i j)
            rcases bx with rfl | rfl
            · have HN4 : Hid (clsTo (rF m n) i (j + 1) = clsTo (rF m n) i j) := Lib.hid (by rw [clsTo, HMU.out]; simp)
              have HN5 := Lib.hid (seenT_no (n := n) (by rw [HMU.out]; rfl : both (rF m n) i j = false))
              go_wp2
              go_roundw
              case rel => exact ⟨j + 1, by omega, by go_num, by rw [HN4.out]; exact hq, by rw [← HN5.out]; exact hsq, hRq, hHq, hbq, hszq⟩
              case measure => simp [intOf]; omega
            · rcases bby with rfl | rfl
              · have HN4 : Hid (clsTo (rF m n) i (j + 1) = clsTo (rF m n) i j) := Lib.hid (by rw [clsTo, HMU.out]; simp)
                have HN5 := Lib.hid (seenT_no (n := n) (by rw [HMU.out]; rfl : both (rF m n) i j = false))
                go_wp2
                go_roundw
                case rel => exact ⟨j + 1, by omega, by go_num, by rw [HN4.out]; exact hq, by rw [← HN5.out]; exact hsq, hRq, hHq, hbq, hszq⟩
                case measure => simp [intOf]; omega
              · have HN4 : Hid (clsTo (rF m n) i (j + 1) = clsTo (rF m n) i j ++ [(j : Int)]) := Lib.hid (by rw [clsTo, HMU.out]; simp)
                have HN5 := Lib.hid (seenT_yes (n := n) (by rw [HMU.out]; rfl : both (rF m n) i j = true))
                obtain ⟨gs, cs, hv, -, hgs1, hfr, hst⟩ := hsq.at (bls_get (g := seenT (rF m n) n i j) hltj)
                rw [bls_length] at hv
                simp only [Value.slice.injEq, Option.some.injEq, Addr.mk.injEq] at hv
                obtain ⟨⟨hgw, -⟩, -⟩ := hv
                subst hgw
                obtain ⟨hs3, hgr⟩ := hst (.bool true)
                rw [HN5.out] at hs3
                clear hst
                have hq3 := hq.grown hgr (.inr fun e => by have := hq.lt _ e; omega)
                have hRq3 := hRq.grownOut (u := .slice (some ⟨w1.heap.size, 0, none⟩) n n) hgr (fun k hk => by simp [Value.ownBlock] at hk; omega)
                have hHq3 := hHq.grownOut (u := .slice (some ⟨w1.heap.size, 0, none⟩) n n) hgr (fun k hk => by simp [Value.ownBlock] at hk; omega)
                have hbq3 : Below w.heap.size w (wr.setCell ⟨w1.heap.size, j, none⟩ (.bool true)) := hbq.setCell hs1 _
                have hsz3 := hgr.size
                have hsq3 : wo.heap.size ≤ (wr.setCell ⟨w1.heap.size, j, none⟩ (.bool true)).heap.size := by omega
                go_wp2_with (at_builtin; refine app1 28 3 8 (.int .i64 0) Try.underlying28 Try.infoInt rfl hq3 (.int .i64 j) rfl ?h1 ?h2 hsq3 rfl _ _ rfl rfl rfl (by simp) ?_)
                case h1 => rw [ints_length]; have := HLQ.out; unfold maxLen; omega
                case h2 => rw [ints_length]; have := HLQ.out; omega
                intro q' w3 hq4 hg4 hsz4
                have hs4 := hs3.grown hg4 (.inr fun e => by have := hq.lt _ e.symm; simp at this; omega)
                have hRq4 := hRq3.grownOut hg4 (fun k hk => by have := hq.lt _ hk; omega)
                have hHq4 := hHq3.grownOut hg4 (fun k hk => by have := hq.lt _ hk; omega)
                have hb4 := hbq3.trans (grow_below hg4 (fun k hk => by have := hq.lt _ hk; omega : ∀ k, u7.ownBlock = some k → w.heap.size ≤ k) (Nat.le_refl _) (by omega))
                go_wp2
                go_roundw
                case rel => exact ⟨j + 1, by omega, by go_num, by rw [HN4.out]; simp only [ints, List.map_append] at hq4 ⊢; exact hq4, hs4, hRq4, hHq4, hb4, by omega⟩
                case measure => simp [intOf]; omega
          · have e : n = j := by omega
            subst e
            rw [HN3.out] at hsq
            have HT2 := Lib.hid (compTo_len (rF m n) n i)
            obtain ⟨aq, cq, hqf⟩ := hq.form rfl
            subst hqf
            go_wp2_with (at_builtin; refine appM 24 28 3 rfl rfl (by decide) hHq hq (by omega) (by omega) ?h1 rfl _ _ rfl rfl rfl (by simp) ?_)
            case h1 => have := HT2.out.1; omega
            intro q' w3 hq3 hg hsz3
            have hR3 := hRq.grownOut hg (fun k hk => .inr (by have := (ho.own k hk).1; omega))
            have hse3 := hsq.grown hg (.inr fun e => by have := (ho.own w1.heap.size e.symm).1; omega)
            have hb3 := hbq.trans (grow_below hg (fun k hk => by have := (ho.own k hk).1; omega : ∀ k, u5.ownBlock = some k → w.heap.size ≤ k) (Nat.le_refl _) (by omega))
            go_wp2
            go_roundw
            case rel => exact ⟨i + 1, by omega, by go_num, by rw [HN2.out]; exact hq3, hse3, hR3, hb3, by omega⟩
            case measure => simp [intOf]; omega
    · have e : n = i := by omega
      subst e
      go_wp2
      go_ret
      exact ⟨_, rfl, by rw [HC.out]; exact ho.mono (by omega), hbl⟩
end Go.Proofs.Ytenjakgahniijaa
