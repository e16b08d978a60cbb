/- The laws' own helpers that hold lists against each other. No statement is proved here. -/
import Derived.Test.YtkohadoicebojaaGreatDoorHelp
import Derived.Test.YtkohadoicebojaaGreatDoorDraw
import Derived.Test.YtkohadoicebojaaGreatDoorStrsH
namespace Go.Proofs.YtkohadoicebojaaGreatDoor
open Go.RowKit Go.Deep
set_option maxRecDepth 10000 in
set_option maxHeartbeats 400000 in
theorem bigC (v : Value) (l : List UInt8) (w : World) (hv : BytesV w v l) :
    Calls Tryz.prog 5 #[v] w fun e w' => e = .returned (.bool (decide (1048576 < (l.length : Int)))) ∧ w = w' := by
  obtain ⟨a, cap, rfl, hn, HC⟩ := Row.open hv
  rw [bv_length] at hn ⊢
  obtain ⟨n, hl⟩ : ∃ n, l.length = n := ⟨_, rfl⟩
  rw [hl] at hn ⊢
  clear HC hv
  go_enter Tryz.func5, Tryz.ntmps5
  go_wp2
  go_ret
  exact ⟨rfl, rfl⟩
set_option maxRecDepth 10000 in
set_option maxHeartbeats 400000 in
theorem sameTexts (v v' : Value) (l l' : List ByteArray) (w : World) (h : Strs w v l) (h' : Strs w v' l') :
    Calls Tryz.prog 35 #[v, v'] w fun e w' => e = .returned (.bool (same l l')) ∧ Drawn w w' := by
  obtain ⟨a, n, cap, rfl, HL, hn, HC⟩ := h.open
  obtain ⟨a', n', cap', rfl, HL', hn', HC'⟩ := h'.open
  by_cases hne : n = n'
  · subst hne
    go_enter Tryz.func35, Tryz.ntmps35
    go_wp2
    go_loopw [5] (fun i wr => (∃ j : Nat, j ≤ n ∧ i = .int .i64 j ∧ Hid (l.take j = l'.take j)) ∧ Drawn w wr) (fun i _ => n - (intOf i).toNat)
    case atStart => exact ⟨⟨0, Nat.zero_le _, rfl, Lib.hid rfl⟩, Drawn.refl _⟩
    case round =>
      obtain ⟨⟨j, hj, rfl, HT⟩, hd⟩ := hrel
      by_cases hlt : j < n
      · obtain ⟨b, off, x, rfl, hc, HX⟩ := HC.out j hlt
        obtain ⟨b', off', x', rfl, hc', HX'⟩ := HC'.out j hlt
        have hc1 := hd.cell hc
        have hc1' := hd.cell hc'
        by_cases hx : x = x'
        · subst hx
          go_wp2
          go_quiet (fail)
          go_wp2
          go_roundw
          case rel => exact ⟨⟨j + 1, by omega, by go_num, Lib.hid (take_eq_succ HT.out HX.out HX'.out rfl)⟩, hd.drewN _⟩
          case measure => simp [intOf]; omega
        · have hx2 := beq_toList_ne hx
          have hx3 := bne_toList_ne hx
          go_wp2
          go_quiet (fail)
          go_wp2
          go_ret
          exact ⟨ret_bool (same_ne (ne_of_get HX.out HX'.out hx)).symm, hd.drewN _⟩
      · go_wp2
        go_ret
        exact ⟨ret_bool (same_eq (eq_of_take_all HL.out HL'.out HT.out hlt)).symm, hd⟩
  · go_enter Tryz.func35, Tryz.ntmps35
    go_wp2
    go_ret
    exact ⟨ret_bool (same_ne (ne_of_len HL.out HL'.out hne)).symm, Drawn.refl _⟩
set_option maxHeartbeats 400000 in
theorem sameInts (v v' : Value) (l l' : List Int) (w : World) (h : Ints w v l) (h' : Ints w v' l') :
    Calls Tryz.prog 67 #[v, v'] w fun e w' => e = .returned (.bool (same l l')) ∧ Drawn w w' := by
  obtain ⟨a, n, cap, rfl, HL, hn, HC⟩ := h.open
  obtain ⟨a', n', cap', rfl, HL', hn', HC'⟩ := h'.open
  by_cases hne : n = n'
  · subst hne
    go_enter Tryz.func67, Tryz.ntmps67
    go_wp2
    go_loopw [5] (fun i wr => (∃ j : Nat, j ≤ n ∧ i = .int .i64 j ∧ Hid (l.take j = l'.take j)) ∧ Drawn w wr) (fun i _ => n - (intOf i).toNat)
    case atStart => exact ⟨⟨0, Nat.zero_le _, rfl, Lib.hid rfl⟩, Drawn.refl _⟩
    case round =>
      obtain ⟨⟨j, hj, rfl, HT⟩, hd⟩ := hrel
      by_cases hlt : j < n
      · obtain ⟨b, off, x, rfl, hc, HX⟩ := HC.out j hlt
        obtain ⟨b', off', x', rfl, hc', HX'⟩ := HC'.out j hlt
        have hc1 := hd.cell hc
        have hc1' := hd.cell hc'
        go_wp2
        go_quiet (fail)
        go_wp2
        · go_ret
          exact ⟨ret_bool (same_ne (ne_of_get HX.out HX'.out (by simp_all))).symm, hd.drewN _⟩
        · go_roundw
          case rel => exact ⟨⟨j + 1, by omega, by go_num, Lib.hid (take_eq_succ HT.out HX.out HX'.out (by simp_all))⟩, hd.drewN _⟩
          case measure => simp [intOf]; omega
      · go_wp2
        go_ret
        exact ⟨ret_bool (same_eq (eq_of_take_all HL.out HL'.out HT.out hlt)).symm, hd⟩
  · go_enter Tryz.func67, Tryz.ntmps67
    go_wp2
    go_ret
    exact ⟨ret_bool (same_ne (ne_of_len HL.out HL'.out hne)).symm, Drawn.refl _⟩
set_option maxHeartbeats 400000 in
theorem sameLists (v v' : Value) (l l' : List (List Int)) (w : World) (h : Mat w v l) (h' : Mat w v' l') :
    Calls Tryz.prog 15 #[v, v'] w fun e w' => e = .returned (.bool (same l l')) ∧ Drawn w w' := by
  obtain ⟨a, n, cap, rfl, HL, hn, HC⟩ := h.open
  obtain ⟨a', n', cap', rfl, HL', hn', HC'⟩ := h'.open
  by_cases hne : n = n'
  · subst hne
    go_enter Tryz.func15, Tryz.ntmps15
    go_wp2
    go_loopw [5] (fun i wr => (∃ j : Nat, j ≤ n ∧ i = .int .i64 j ∧ Hid (l.take j = l'.take j)) ∧ Drawn w wr) (fun i _ => n - (intOf i).toNat)
    case atStart => exact ⟨⟨0, Nat.zero_le _, rfl, Lib.hid rfl⟩, Drawn.refl _⟩
    case round =>
      obtain ⟨⟨j, hj, rfl, HT⟩, hd⟩ := hrel
      by_cases hlt : j < n
      · obtain ⟨b, off, x, r, rfl, hc, HX, hr⟩ := HC.out j hlt
        obtain ⟨b', off', x', r', rfl, hc', HX', hr'⟩ := HC'.out j hlt
        have hc1 := hd.cell hc
        have hc1' := hd.cell hc'
        go_wp2
        go_quiet ((go_at_call 67; exact Calls.quiet_of (sameInts _ _ r r' _ (hr.keep ((hd.drewN _).below _)) (hr'.keep ((hd.drewN _).below _)))))
        go_wp2
        · go_ret
          exact ⟨ret_bool (same_ne (ne_of_get HX.out HX'.out (by intro e; subst e; simp_all [same_refl]))).symm, hd.drewN _⟩
        · go_roundw
          case rel => exact ⟨⟨j + 1, by omega, by go_num, Lib.hid (take_eq_succ HT.out HX.out HX'.out (of_same (by simp_all)))⟩, hd.drewN _⟩
          case measure => simp [intOf]; omega
      · go_wp2
        go_ret
        exact ⟨ret_bool (same_eq (eq_of_take_all HL.out HL'.out HT.out hlt)).symm, hd⟩
  · go_enter Tryz.func15, Tryz.ntmps15
    go_wp2
    go_ret
    exact ⟨ret_bool (same_ne (ne_of_len HL.out HL'.out hne)).symm, Drawn.refl _⟩
theorem bytesKeep {w w' : World} {v : Value} {l : List UInt8} (h : BytesV w v l) (hb : Below w.heap.size w w') : BytesV w' v l := Row.keep h hb
end Go.Proofs.YtkohadoicebojaaGreatDoor
