/- Contracts of ReachOf, second part. No statement is proved here. -/
import Derived.Test.YtenjakgahniijaaReach
namespace Go.Proofs.Ytenjakgahniijaa
open Go.RowKit Go.Deep
def bitB (b : Bool) : Int := if b = true then 1 else 0
theorem bitB_bit (x : Int) : bitB (decide (0 < x)) = bit x := by unfold bitB bit; by_cases h : 0 < x <;> simp [h]
theorem bits_and {y z : Int} (hy : y = 0 ∨ y = 1) (hz : z = 0 ∨ z = 1) : bits .and .i64 y z = mn y z := by
  rcases hy with rfl | rfl <;> rcases hz with rfl | rfl <;> decide
theorem bits_or {x y z : Int} (hx : x = 0 ∨ x = 1) (hy : y = 0 ∨ y = 1) (hz : z = 0 ∨ z = 1) : bits .or .i64 x (mn y z) = stp x y z := by
  rcases hx with rfl | rfl <;> rcases hy with rfl | rfl <;> rcases hz with rfl | rfl <;> decide
set_option maxRecDepth 10000 in
set_option maxHeartbeats 400000 in
theorem l1Bit (b : Bool) (w : World) : Calls Try.prog 87 #[.bool b] w fun e w' => e = .returned (.int .i64 (bitB b)) ∧ w = w' := by
  cases b
  · go_enter Try.func87, Try.ntmps87
    go_wp2
    go_ret
    exact ⟨rfl, rfl⟩
  · go_enter Try.func87, Try.ntmps87
    go_wp2
    go_ret
    exact ⟨rfl, rfl⟩
set_option maxRecDepth 10000 in
set_option maxHeartbeats 400000 in
theorem sreach (v : Value) (m : List (List Int)) (w : World) (h : Mat w v m) (hm : isMat m = true) :
    Calls Try.prog 76 #[v] w fun e w' => ∃ v', e = .returned v' ∧ OwnMat 28 3 w.heap.size w' v' (reachM m) ∧ Below w.heap.size w w' := by
  obtain ⟨a, n, cap, rfl, HL, hn, HC⟩ := h.open
  clear h
  have n9 : n ≤ 9 := by have := (isMat_len hm).2; have := HL.out; omega
  have HY := Lib.hid (reachM_yes hm HL.out)
  have HI := Lib.hid hm; clear hm
  go_enter Try.func76, Try.ntmps76
  go_wp2_with (go_at_call 83; refine (sZero n n _ (by omega) (by omega)).mono ?_; rintro e w1 ⟨v1, rfl, ho1, hb1⟩; obtain ⟨av, cv, hv⟩ := ho1.form; rw [tabF_length] at hv; subst hv)
  go_loopw [4] (fun i wr => ∃ k : Nat, k ≤ n ∧ i = .int .i64 k ∧ OwnMat 28 3 w.heap.size wr (.slice av n cv) (tabF n n (bitF m k 0)) ∧ Below w.heap.size w wr) (fun i _ => n - (intOf i).toNat)
  case atStart => exact ⟨0, Nat.zero_le _, rfl, by rw [bitF_zero]; exact ho1, hb1⟩
  case round =>
    obtain ⟨k, hk, rfl, ho, hb⟩ := hrel
    by_cases hlt : k < n
    · obtain ⟨b, off, u, r, rfl, hc, HX, hu⟩ := HC.out k hlt
      obtain ⟨a', n', cap', rfl, HL', hn', HC'⟩ := hu.open
      have hnn : n' = n := by have := isMat_row HI.out HX.out; have := HL.out; have := HL'.out; omega
      subst hnn
      clear hu
      go_wp2
      go_loopw [5] (fun i wr => ∃ j : Nat, j ≤ n' ∧ i = .int .i64 j ∧ OwnMat 28 3 w.heap.size wr (.slice av n' cv) (tabF n' n' (bitF m k j)) ∧ Below w.heap.size w wr) (fun i _ => n' - (intOf i).toNat)
      case atStart => exact ⟨0, Nat.zero_le _, rfl, ho, hb⟩
      case round =>
        obtain ⟨j, hj, rfl, ho, hb⟩ := hrel
        by_cases hlt' : j < n'
        · obtain ⟨b', off', x, rfl, hc', HX'⟩ := HC'.out j hlt'
          have hc1 := cell_keep hb hc
          have hc1' := cell_keep hb hc'
          obtain ⟨g, cg, gj, cj, hv, hg1, hg2, hgf, hgB, HST⟩ := ho.at2 (by decide) (tabF_get hlt) (rowF_get hlt')
          rw [tabF_length] at *
          rw [rowF_length] at hg1
          obtain ⟨rfl, rfl⟩ := slice_inj1 hv
          clear ho hv
          go_wp2
          go_region_with ((go_at_call 87; refine (l1Bit _ _).mono ?_; rintro e w2 ⟨rfl, rfl⟩))
          all_goals go_wp2
          all_goals
            go_roundw
            case rel => exact ⟨j + 1, by omega, by go_num, by have h := HST.out (bitB (decide (0 < x))); rw [bitB_bit] at h ⊢; rw [← bitF_step m n' k j hlt x (ent_of HX.out HX'.out)]; exact h, (hb.setCell hgB _).drew⟩
            case measure => simp [intOf]; omega
        · have e : j = n' := by omega
          subst e
          go_wp2
          go_roundw
          case rel => exact ⟨k + 1, by omega, by go_num, by rw [← bitF_row]; exact ho, hb⟩
          case measure => simp [intOf]; omega
    · have e : n = k := by omega
      subst e
      rw [bitF_all] at ho
      have HB := Lib.hid (fun k i j => wRow_bits (wTab_bits n (wAll_bits n (bit_bits m) k) k i) k i j)
      go_wp2
      go_loopw [6] (fun i wr => ∃ k : Nat, k ≤ n ∧ i = .int .i64 k ∧ OwnMat 28 3 w.heap.size wr (.slice av n cv) (tabF n n (wAll n (bit0 m) k)) ∧ Below w.heap.size w wr) (fun i _ => n - (intOf i).toNat)
      case atStart => exact ⟨0, Nat.zero_le _, rfl, ho, hb⟩
      case round =>
        obtain ⟨k, hk, rfl, ho, hb⟩ := hrel
        by_cases hltk : k < n
        · go_wp2
          go_loopw [7] (fun i wr => ∃ i' : Nat, i' ≤ n ∧ i = .int .i64 i' ∧ OwnMat 28 3 w.heap.size wr (.slice av n cv) (tabF n n (wTab n (wAll n (bit0 m) k) k i')) ∧ Below w.heap.size w wr) (fun i _ => n - (intOf i).toNat)
          case atStart => exact ⟨0, Nat.zero_le _, rfl, ho, hb⟩
          case round =>
            obtain ⟨i, hi, rfl, ho, hb⟩ := hrel
            by_cases hlti : i < n
            · go_wp2
              go_loopw [8] (fun i' wr => ∃ j : Nat, j ≤ n ∧ i' = .int .i64 j ∧ OwnMat 28 3 w.heap.size wr (.slice av n cv) (tabF n n (wRow (wTab n (wAll n (bit0 m) k) k i) k i j)) ∧ Below w.heap.size w wr) (fun i _ => n - (intOf i).toNat)
              case atStart => exact ⟨0, Nat.zero_le _, rfl, ho, hb⟩
              case round =>
                obtain ⟨j, hj, rfl, ho, hb⟩ := hrel
                by_cases hltj : j < n
                · have hbits := HB.out k i j
                  obtain ⟨F, hF⟩ : ∃ F, F = wRow (wTab n (wAll n (bit0 m) k) k i) k i j := ⟨_, rfl⟩
                  have HF := Lib.hid hF
                  rw [← hF] at ho hbits
                  clear hF
                  have hw := wAt_set F n k i j hlti
                  have bx := hbits i j
                  have bby := hbits i k
                  have bz := hbits k j
                  clear hbits
                  obtain ⟨x, hx⟩ : ∃ x, F i j = x := ⟨_, rfl⟩
                  obtain ⟨y, hy⟩ : ∃ y, F i k = y := ⟨_, rfl⟩
                  obtain ⟨z, hz⟩ : ∃ z, F k j = z := ⟨_, rfl⟩
                  obtain ⟨g, cg, gj, cj, hv, hg1, hg2, hgf, hgB, HST⟩ := ho.at2 (by decide) (tabF_get hlti) (rowF_get hltj)
                  obtain ⟨g2, cg2, gj2, cj2, hv2, hg3, hg4, hgf2, -, -⟩ := ho.at2 (by decide) (tabF_get hlti) (rowF_get hltk)
                  obtain ⟨g3, cg3, gj3, cj3, hv3, hg5, hg6, hgf3, -, -⟩ := ho.at2 (by decide) (tabF_get hltk) (rowF_get hltj)
                  rw [tabF_length] at *
                  rw [rowF_length] at hg1 hg3 hg5
                  obtain ⟨rfl, rfl⟩ := slice_inj1 hv
                  obtain ⟨rfl, -⟩ := slice_inj hv2
                  obtain ⟨rfl, -⟩ := slice_inj hv3
                  obtain ⟨rfl, -⟩ := slice_inj (Option.some.inj (hg1.symm.trans hg3))
                  clear hv hv2 hv3 hg3 hgf2 hgf3
                  rw [hx] at hg2 hw bx
                  rw [hy] at hg4 hw bby
                  rw [hz] at hg6 hw bz
                  have HW := Lib.hid hw
                  have h1 := bits_and bby bz
                  have h2 := bits_or bx bby bz
                  clear ho hw hx hy hz bx bby bz
                  go_wp2
                  go_region
                  go_wp2
                  go_roundw
                  case rel => exact ⟨j + 1, by omega, by go_num, by have h := HST.out (stp x y z); rw [HW.out] at h; rw [HF.out] at h; exact h, (hb.setCell hgB _).drew⟩
                  case measure => simp [intOf]; omega
                · have e : j = n := by omega
                  subst e
                  go_wp2
                  go_roundw
                  case rel => exact ⟨i + 1, by omega, by go_num, ho, hb⟩
                  case measure => simp [intOf]; omega
            · have e : i = n := by omega
              subst e
              go_wp2
              go_roundw
              case rel => exact ⟨k + 1, by omega, by go_num, ho, hb⟩
              case measure => simp [intOf]; omega
        · have e : k = n := by omega
          subst e
          go_wp2
          go_ret
          exact ⟨_, rfl, by rw [HY.out]; exact ho, hb⟩
set_option maxRecDepth 10000 in
set_option maxHeartbeats 400000 in
theorem sReachOf (v : Value) (m : List (List Int)) (w : World) (h : Mat w v m) :
    Calls Try.prog 37 #[v] w fun e w' => ∃ v', e = .returned v' ∧ OwnMat 28 3 w.heap.size w' v' (reachM m) ∧ Below w.heap.size w w' := by
  cases hm : isMat m
  · have HI := Lib.hid hm; clear hm
    go_enter Try.func37, Try.ntmps37
    go_wp2_with (go_at_call 28; refine (sIsMatrix _ m _ h).mono ?_; rintro e w2 ⟨rfl, rfl⟩; rw [HI.out])
    go_ret
    exact ⟨_, rfl, by rw [reachM_no HI.out]; exact OwnMat.empty _ _ _, below_alloc _ _⟩
  · have HI := Lib.hid hm; clear hm
    go_enter Try.func37, Try.ntmps37
    go_wp2_with (first | (go_at_call 28; refine (sIsMatrix _ m _ h).mono ?_; rintro e w2 ⟨rfl, rfl⟩; rw [HI.out]) | (go_at_call 76; refine (sreach _ m _ h HI.out).mono ?_; rintro e w2 ⟨v2, rfl, ho2, hb2⟩))
    go_ret
    exact ⟨_, rfl, ho2, hb2⟩
set_option maxRecDepth 10000 in
set_option maxHeartbeats 400000 in
theorem iReachOf (v : Value) (m : List (List Int)) (w : World) (h : Mat w v m) :
    Calls Try.prog 32 #[v] w fun e w' => ∃ v', e = .returned v' ∧ OwnMat 28 3 w.heap.size w' v' (reachM m) ∧ Below w.heap.size w w' := by
  cases hm : isMat m
  · have HI := Lib.hid hm; clear hm
    go_enter Try.func32, Try.ntmps32
    go_wp2_with (go_at_call 54; refine (iIsMatrix _ m _ h).mono ?_; rintro e w2 ⟨rfl, rfl⟩; rw [HI.out])
    go_ret
    exact ⟨_, rfl, by rw [reachM_no HI.out]; exact OwnMat.nil _ _ _ _, Below.refl _ _⟩
  · have HI := Lib.hid hm; clear hm
    go_enter Try.func32, Try.ntmps32
    go_wp2_with (first | (go_at_call 54; refine (iIsMatrix _ m _ h).mono ?_; rintro e w2 ⟨rfl, rfl⟩; rw [HI.out]) | (go_at_call 69; refine (ireach _ m _ h HI.out).mono ?_; rintro e w2 ⟨v2, rfl, ho2, hb2⟩))
    go_ret
    exact ⟨_, rfl, ho2, hb2⟩
end Go.Proofs.Ytenjakgahniijaa
