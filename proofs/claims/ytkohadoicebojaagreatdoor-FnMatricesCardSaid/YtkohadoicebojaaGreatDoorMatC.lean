/- Contracts of SumOf and IsGraph, the program's and the reference's. No statement is proved here. -/
import Derived.Test.YtkohadoicebojaaGreatDoorMatA
namespace Go.Proofs.YtkohadoicebojaaGreatDoor
open Go.RowKit Go.Deep
set_option maxRecDepth 10000 in
set_option maxHeartbeats 400000 in
theorem itotal (v : Value) (l : List Int) (w : World) (h : Ints w v l) (hl : l.length ≤ 1000) (hb : ∀ j, 0 ≤ sumI (l.take j) ∧ sumI (l.take j) ≤ 1000000000000) (hx : ∀ x ∈ l, 0 ≤ x ∧ x ≤ 1000000000000) :
    Calls Tryz.prog 69 #[v] w fun e w' => e = .returned (.int .i64 (sumI l)) ∧ w = w' := by
  obtain ⟨a, n, cap, rfl, HL, hn, HC⟩ := h.open
  clear h
  have HB := Lib.hid hb; clear hb
  have HX := Lib.hid hx; clear hx
  rw [HL.out] at hl
  go_enter Tryz.func69, Tryz.ntmps69
  go_wp2
  go_loop [3, 8] (fun s i => ∃ (j : Nat) (t : Int), j ≤ n ∧ i = .int .i64 j ∧ s = .int .i64 t ∧ Hid (t = sumI (l.take j))) (fun _ i => n - (intOf i).toNat)
  case atStart => exact ⟨0, 0, Nat.zero_le _, rfl, rfl, Lib.hid rfl⟩
  case round =>
    obtain ⟨j, t, hj, rfl, rfl, HT⟩ := hrel
    by_cases hlt : j < n
    · obtain ⟨b, off, x, rfl, hc, HXX⟩ := HC.out j hlt
      have hx := HX.out x (List.mem_of_getElem? HXX.out)
      have hx0 := hx.1
      have hx1 := hx.2
      have ht := HB.out j
      rw [← HT.out] at ht
      have ht0 := ht.1
      have ht1 := ht.2
      clear hx ht
      go_wp2
      go_round
      case rel => exact ⟨j + 1, t + x, by omega, by go_num, rfl, Lib.hid (by rw [sumI_succ HXX.out, HT.out])⟩
      case measure => simp [intOf]; omega
    · go_wp2
      go_ret
      exact ⟨ret_int (by rw [HT.out, sumI_all HL.out hlt]), rfl⟩
set_option maxRecDepth 10000 in
set_option maxHeartbeats 400000 in
theorem iSumOf (v : Value) (m : List (List Int)) (w : World) (h : Mat w v m) :
    Calls Tryz.prog 20 #[v] w fun e w' => e = .returned (.int .i64 (sumOf m)) ∧ w = w' := by
  have HM := Lib.hid h
  obtain ⟨a, n, cap, rfl, HL, hn, HC⟩ := h.open
  clear h
  cases hm : isMat m
  · have HI := Lib.hid hm; clear hm
    go_enter Tryz.func20, Tryz.ntmps20
    go_wp2_with (go_at_call 16; refine (iIsMatrix _ m _ HM.out).mono ?_; rintro e w2 ⟨rfl, rfl⟩; rw [HI.out])
    go_ret
    exact ⟨ret_int (sumOf_no HI.out).symm, rfl⟩
  · have hl9 := isMat_len hm
    have HI := Lib.hid hm; clear hm
    have n9 : n ≤ 9 := by have := HL.out; omega
    clear hl9
    go_enter Tryz.func20, Tryz.ntmps20
    go_wp2_with (go_at_call 16; refine (iIsMatrix _ m _ HM.out).mono ?_; rintro e w2 ⟨rfl, rfl⟩; rw [HI.out])
    go_loop [3, 11] (fun s i => ∃ (j : Nat) (t : Int), j ≤ n ∧ i = .int .i64 j ∧ s = .int .i64 t ∧ Hid (t = sumM (m.take j))) (fun _ i => n - (intOf i).toNat)
    case atStart => exact ⟨0, 0, Nat.zero_le _, rfl, rfl, Lib.hid rfl⟩
    case round =>
      obtain ⟨j, t, hj, rfl, rfl, HT⟩ := hrel
      by_cases hlt : j < n
      · obtain ⟨b, off, u, r, rfl, hc, HX, hu⟩ := HC.out j hlt
        have ht := sumM_take_bd HI.out j
        rw [← HT.out] at ht
        have ht0 := ht.1
        have ht1 := ht.2
        have hr := sumI_row_bd HI.out HX.out
        have hr0 := hr.1
        have hr1 := hr.2
        clear ht hr
        go_wp2_with (go_at_call 69; refine (itotal u r _ hu (by have := isMat_row HI.out HX.out; have := HL.out; omega) (fun j => by have := sumI_take_bd HI.out HX.out j; omega) (fun x hx => by have := (isMat_mem HI.out (List.mem_of_getElem? HX.out)).2 x hx; omega)).mono ?_; rintro e w2 ⟨rfl, rfl⟩)
        go_round
        case rel => exact ⟨j + 1, t + sumI r, by omega, by go_num, rfl, Lib.hid (by rw [sumM_succ HX.out, HT.out])⟩
        case measure => simp [intOf]; omega
      · go_wp2
        go_ret
        exact ⟨ret_int (by rw [sumOf_yes HI.out, HT.out, sumM_all HL.out hlt]), rfl⟩
set_option maxRecDepth 10000 in
set_option maxHeartbeats 400000 in
theorem sSumOf (v : Value) (m : List (List Int)) (w : World) (h : Mat w v m) :
    Calls Tryz.prog 21 #[v] w fun e w' => e = .returned (.int .i64 (sumOf m)) ∧ w = w' := by
  have HM := Lib.hid h
  obtain ⟨a, n, cap, rfl, HL, hn, HC⟩ := h.open
  clear h
  cases hm : isMat m
  · have HI := Lib.hid hm; clear hm
    go_enter Tryz.func21, Tryz.ntmps21
    go_wp2_with (go_at_call 17; refine (sIsMatrix _ m _ HM.out).mono ?_; rintro e w2 ⟨rfl, rfl⟩; rw [HI.out])
    go_ret
    exact ⟨ret_int (sumOf_no HI.out).symm, rfl⟩
  · have hl9 := isMat_len hm
    have HI := Lib.hid hm; clear hm
    have n9 : n ≤ 9 := by have := HL.out; omega
    clear hl9
    go_enter Tryz.func21, Tryz.ntmps21
    go_wp2_with (go_at_call 17; refine (sIsMatrix _ m _ HM.out).mono ?_; rintro e w2 ⟨rfl, rfl⟩; rw [HI.out])
    go_loop [3, 4] (fun s i => ∃ (j : Nat) (t : Int), j ≤ n ∧ i = .int .i64 j ∧ s = .int .i64 t ∧ Hid (t = sumM (m.take j))) (fun _ i => n - (intOf i).toNat)
    case atStart => exact ⟨0, 0, Nat.zero_le _, rfl, rfl, Lib.hid rfl⟩
    case round =>
      obtain ⟨j, t, hj, rfl, rfl, HT⟩ := hrel
      by_cases hlt : j < n
      · obtain ⟨b, off, u, r, rfl, hc, HX, hu⟩ := HC.out j hlt
        obtain ⟨a', n', cap', rfl, HL', hn', HC'⟩ := hu.open
        have hnn : n' = n := by have := isMat_row HI.out HX.out; have := HL.out; have := HL'.out; omega
        subst hnn
        have ht := sumM_take_bd HI.out j
        rw [← HT.out] at ht
        have ht0 := ht.1
        have ht1 := ht.2
        clear ht
        go_wp2
        go_loop [3, 5] (fun s i => ∃ (j : Nat) (q : Int), j ≤ n' ∧ i = .int .i64 j ∧ s = .int .i64 (t + q) ∧ Hid (q = sumI (r.take j))) (fun _ i => n' - (intOf i).toNat)
        case atStart => exact ⟨0, 0, Nat.zero_le _, rfl, by go_num, Lib.hid rfl⟩
        case round =>
          obtain ⟨k, q, hk, rfl, rfl, HQ⟩ := hrel
          by_cases hlt' : k < n'
          · obtain ⟨b', off', x, rfl, hc', HX'⟩ := HC'.out k hlt'
            have hx := isMat_num HI.out HX.out HX'.out
            have hx0 := hx.1
            have hx1 := hx.2
            have hq := sumI_take_bd HI.out HX.out k
            rw [← HQ.out] at hq
            have hq0 := hq.1
            have hq1 := hq.2
            clear hx hq
            go_wp2
            go_round
            case rel => exact ⟨k + 1, q + x, by omega, by go_num, by go_num, Lib.hid (by rw [sumI_succ HX'.out, HQ.out])⟩
            case measure => simp [intOf]; omega
          · go_wp2
            go_round
            case rel => exact ⟨j + 1, t + q, by omega, by go_num, rfl, Lib.hid (by rw [sumM_succ HX.out, HT.out, HQ.out, sumI_all HL'.out hlt'])⟩
            case measure => simp [intOf]; omega
      · go_wp2
        go_ret
        exact ⟨ret_int (by rw [sumOf_yes HI.out, HT.out, sumM_all HL.out hlt]), rfl⟩

end Go.Proofs.YtkohadoicebojaaGreatDoor
