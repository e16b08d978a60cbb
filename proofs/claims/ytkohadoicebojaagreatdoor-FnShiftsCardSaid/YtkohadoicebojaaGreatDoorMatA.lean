/- Contracts of the small functions on matrices, the program's and the reference's. No statement is proved here. -/
import Derived.Test.YtkohadoicebojaaGreatDoorHelp
namespace Go.Proofs.YtkohadoicebojaaGreatDoor
open Go.RowKit Go.Deep
theorem l1In (a b c : Int) (w : World) :
    Calls Tryz.prog 59 #[.int .i64 a, .int .i64 b, .int .i64 c] w fun e w' => e = .returned (.bool (inR a b c)) ∧ w = w' := by
  go_enter Tryz.func59, Tryz.ntmps59
  go_wp2
  all_goals (go_ret; exact ⟨ret_bool (by unfold inR; simp [*]; try omega), rfl⟩)
set_option maxHeartbeats 400000 in
theorem sIsMatrix (v : Value) (m : List (List Int)) (w : World) (h : Mat w v m) :
    Calls Tryz.prog 17 #[v] w fun e w' => e = .returned (.bool (isMat m)) ∧ w = w' := by
  obtain ⟨a, n, cap, rfl, HL, hn, HC⟩ := h.open
  go_enter Tryz.func17, Tryz.ntmps17
  go_wp2
  go_loop [3] (fun i => ∃ k : Nat, k ≤ n ∧ i = .int .i64 k ∧ Hid ((m.take k).all (rowOk n) = true)) (fun i => n - (intOf i).toNat)
  case atStart => exact ⟨0, Nat.zero_le _, rfl, Lib.hid rfl⟩
  case round =>
    obtain ⟨k, hk, rfl, HT⟩ := hrel
    by_cases hlt : k < n
    · obtain ⟨b, off, u, r, rfl, hc, HX, hu⟩ := HC.out k hlt
      obtain ⟨a', n', cap', rfl, HL', hn', HC'⟩ := hu.open
      by_cases hne : n' = n
      · subst hne
        go_wp2
        go_loop [4] (fun i => ∃ j : Nat, j ≤ n' ∧ i = .int .i64 j ∧ Hid ((r.take j).all numOk = true)) (fun i => n' - (intOf i).toNat)
        case atStart => exact ⟨0, Nat.zero_le _, rfl, Lib.hid rfl⟩
        case round =>
          obtain ⟨j, hj, rfl, HT'⟩ := hrel
          by_cases hlt' : j < n'
          · obtain ⟨b', off', x, rfl, hc', HX'⟩ := HC'.out j hlt'
            go_wp2_with (go_at_call 59; refine (l1In _ _ _ _).mono ?_; rintro e w' ⟨rfl, rfl⟩)
            · go_ret
              exact ⟨ret_bool (isMat_no HL.out HX.out (rowOk_num HX'.out (of_not_t ‹_›))).symm, rfl⟩
            · go_round
              case rel => exact ⟨j + 1, by omega, by go_num, Lib.hid (all_take_succ HX'.out HT'.out (of_not_f ‹_›))⟩
              case measure => simp [intOf]; omega
          · go_wp2
            go_round
            case rel => exact ⟨k + 1, by omega, by go_num, Lib.hid (all_take_succ HX.out HT.out (rowOk_yes HL'.out (all_take_all HL'.out hlt' HT'.out)))⟩
            case measure => simp [intOf]; omega
      · go_wp2
        go_ret
        exact ⟨ret_bool (isMat_no HL.out HX.out (rowOk_len HL'.out hne)).symm, rfl⟩
    · go_wp2_with (go_at_call 59; refine (l1In _ _ _ _).mono ?_; rintro e w' ⟨rfl, rfl⟩)
      go_ret
      exact ⟨ret_bool (isMat_end HL.out (all_take_all HL.out hlt HT.out)).symm, rfl⟩
set_option maxHeartbeats 400000 in
theorem iIsMatrix (v : Value) (m : List (List Int)) (w : World) (h : Mat w v m) :
    Calls Tryz.prog 16 #[v] w fun e w' => e = .returned (.bool (isMat m)) ∧ w = w' := by
  obtain ⟨a, n, cap, rfl, HL, hn, HC⟩ := h.open
  by_cases h1 : n < 1
  · go_enter Tryz.func16, Tryz.ntmps16
    go_wp2
    go_ret
    exact ⟨ret_bool (isMat_size HL.out (by omega)).symm, rfl⟩
  by_cases h9 : 9 < n
  · go_enter Tryz.func16, Tryz.ntmps16
    go_wp2
    go_ret
    exact ⟨ret_bool (isMat_size HL.out (by omega)).symm, rfl⟩
  go_enter Tryz.func16, Tryz.ntmps16
  go_wp2
  go_loop [17] (fun i => ∃ k : Nat, k ≤ n ∧ i = .int .i64 k ∧ Hid ((m.take k).all (rowOk n) = true)) (fun i => n - (intOf i).toNat)
  case atStart => exact ⟨0, Nat.zero_le _, rfl, Lib.hid rfl⟩
  case round =>
    obtain ⟨k, hk, rfl, HT⟩ := hrel
    by_cases hlt : k < n
    · obtain ⟨b, off, u, r, rfl, hc, HX, hu⟩ := HC.out k hlt
      obtain ⟨a', n', cap', rfl, HL', hn', HC'⟩ := hu.open
      by_cases hne : n' = n
      · subst hne
        go_wp2
        go_loop [28] (fun i => ∃ j : Nat, j ≤ n' ∧ i = .int .i64 j ∧ Hid ((r.take j).all numOk = true)) (fun i => n' - (intOf i).toNat)
        case atStart => exact ⟨0, Nat.zero_le _, rfl, Lib.hid rfl⟩
        case round =>
          obtain ⟨j, hj, rfl, HT'⟩ := hrel
          by_cases hlt' : j < n'
          · obtain ⟨b', off', x, rfl, hc', HX'⟩ := HC'.out j hlt'
            by_cases hx0 : x < 0
            · go_wp2
              go_ret
              exact ⟨ret_bool (isMat_no HL.out HX.out (rowOk_num HX'.out (numOk_no (by omega)))).symm, rfl⟩
            by_cases hx1 : 1000000 < x
            · go_wp2
              go_ret
              exact ⟨ret_bool (isMat_no HL.out HX.out (rowOk_num HX'.out (numOk_no (by omega)))).symm, rfl⟩
            · go_wp2
              go_round
              case rel => exact ⟨j + 1, by omega, by go_num, Lib.hid (all_take_succ HX'.out HT'.out (numOk_yes (by omega) (by omega)))⟩
              case measure => simp [intOf]; omega
          · go_wp2
            go_round
            case rel => exact ⟨k + 1, by omega, by go_num, Lib.hid (all_take_succ HX.out HT.out (rowOk_yes HL'.out (all_take_all HL'.out hlt' HT'.out)))⟩
            case measure => simp [intOf]; omega
      · go_wp2
        go_ret
        exact ⟨ret_bool (isMat_no HL.out HX.out (rowOk_len HL'.out hne)).symm, rfl⟩
    · go_wp2
      go_ret
      exact ⟨ret_bool (isMat_yes HL.out (by omega) (by omega) (all_take_all HL.out hlt HT.out)).symm, rfl⟩

end Go.Proofs.YtkohadoicebojaaGreatDoor
