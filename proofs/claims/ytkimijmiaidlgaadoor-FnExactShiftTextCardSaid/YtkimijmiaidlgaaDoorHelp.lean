/- Contracts of the laws' own helpers on slices of numbers and rows (sizes, copies, comparisons). No statement is proved here. -/
import Derived.Test.YtkimijmiaidlgaaDoorRows
import Derived.Test.YtkimijmiaidlgaaDoorMem
import Derived.Test.YtkimijmiaidlgaaDoorPure
import Derived.WalkKit
import Derived.WalkSpells
import Derived.WalkLawsBesides
import Derived.BigQuiet
import Derived.Deep.QuietTactic
namespace Go.Proofs.YtkimijmiaidlgaaDoor
open Go.RowKit Go.Deep
theorem Tryd.infoInts : (Tryd.prog.info? 44).map (fun i => (i.zero, i.size, i.bytes)) = some (some (.slice none 0 0), 1, 24) := by kernel_rfl
theorem Tryd.infoInt : (Tryd.prog.info? 3).map (fun i => (i.zero, i.size, i.bytes)) = some (some (.int .i64 0), 1, 8) := by kernel_rfl

theorem szIntS (v : Value) (l : List Int) (left : Int) (w : World) (h : Ints w v l) (h0 : 0 ≤ left) (h1 : left ≤ 1048576) :
    Calls Tryd.prog 24 #[v, .int .i64 left] w fun e w' => Sz left l.length e ∧ w = w' := by
  obtain ⟨a, n, cap, rfl, HL, hn, -⟩ := h.open
  go_enter Tryd.func24, Tryd.ntmps24
  go_wp2
  all_goals
    go_ret
    exact ⟨⟨_, rfl, by omega, by omega, Lib.hid (by rw [HL.out]; omega)⟩, rfl⟩
set_option maxHeartbeats 400000 in
theorem eqIntS (v v' : Value) (l l' : List Int) (w : World) (h : Ints w v l) (h' : Ints w v' l') :
    Calls Tryd.prog 30 #[v, v'] w fun e w' => e = .returned (.bool (same l l')) ∧ Drawn w w' := by
  obtain ⟨a, n, cap, rfl, HL, hn, HC⟩ := h.open
  obtain ⟨a', n', cap', rfl, HL', hn', HC'⟩ := h'.open
  by_cases hne : n = n'
  · subst hne
    go_enter Tryd.func30, Tryd.ntmps30
    go_wp2
    go_loopw [5] (fun i wr => (∃ j : Nat, j ≤ n ∧ i = .int .i64 j ∧ Hid (l.take j = l'.take j)) ∧ Drawn w wr) (fun i _ => n - (intOf i).toNat)
    case atStart => exact ⟨⟨0, Nat.zero_le _, rfl, Lib.hid rfl⟩, Drawn.refl _⟩
    case round =>
      obtain ⟨⟨j, hj, rfl, HT⟩, hd⟩ := hrel
      by_cases hlt : j < n
      · obtain ⟨b, off, x, rfl, hc, HX⟩ := HC.out j hlt
        obtain ⟨b', off', x', rfl, hc', HX'⟩ := HC'.out j hlt
        have hc1 := hd.cell hc
        have hc1' := hd.cell hc'
        go_wp2
        go_quiet (fail)
        go_wp2
        · go_ret
          exact ⟨ret_bool (same_ne (ne_of_get HX.out HX'.out (by simp_all))).symm, hd.drewN _⟩
        · go_roundw
          case rel => exact ⟨⟨j + 1, by omega, by go_num, Lib.hid (take_eq_succ HT.out HX.out HX'.out (by simp_all))⟩, hd.drewN _⟩
          case measure => simp [intOf]; omega
      · go_wp2
        go_ret
        exact ⟨ret_bool (same_eq (eq_of_take_all HL.out HL'.out HT.out hlt)).symm, hd⟩
  · go_enter Tryd.func30, Tryd.ntmps30
    go_wp2
    go_ret
    exact ⟨ret_bool (same_ne (ne_of_len HL.out HL'.out hne)).symm, Drawn.refl _⟩
set_option maxHeartbeats 400000 in
theorem toIntS (v : Value) (l : List Int) (w : World) (h : Ints w v l) (hs : l.length ≤ 1048576) :
    Calls Tryd.prog 27 #[v] w fun e w' => ∃ v', e = .returned v' ∧ Own 3 w.heap.size w' v' (ints l) ∧ Below w.heap.size w w' := by
  obtain ⟨a, n, cap, rfl, HL, hn, HC⟩ := h.open
  rw [HL.out] at hs
  have hmk := fun w => run_make_row' (P := Tryd.prog) 44 3 (.int .i64 0) 8 Tryd.underlying44 Tryd.infoInt rfl .i64 .i64 n (by omega) (by omega) w
  go_enter Tryd.func27, Tryd.ntmps27
  go_wp2
  go_loopw [4] (fun i wr => ∃ j : Nat, j ≤ n ∧ i = .int .i64 j ∧ Below w.heap.size w wr ∧ wr.rowIs w.heap.size 3 n (fillI l j)) (fun i _ => n - (intOf i).toNat)
  case atStart => exact ⟨0, Nat.zero_le _, rfl, (Below.refl _ _).alloc (Nat.le_refl _) _, World.rowIs_made _ _ _ _⟩
  case round =>
    obtain ⟨j, hj, rfl, hb, hr⟩ := hrel
    by_cases hlt : j < n
    · obtain ⟨b, off, x, rfl, hc, HX⟩ := HC.out j hlt
      have hc1 : wr.cell? ⟨b, off + j, none⟩ = some (.int .i64 x) := by rw [hb.cell (p := ⟨b, off + j, none⟩) (World.block_lt_of_cell? w _ hc)]; exact hc
      have hc2 := hr.cell hlt
      have hf2 := hr.frozen j
      go_wp2
      go_roundw
      case rel => exact ⟨j + 1, by omega, by go_num, hb.setCell (Nat.le_refl _) _, (hr.set j _).congr fun i _ => fillI_step HX.out i⟩
      case measure => simp [intOf]; omega
    · go_wp2
      go_ret
      exact ⟨_, rfl, Own.of_rowIs hr (Nat.le_refl _) (by rw [ints_length]; exact HL.out) (by unfold maxLen; omega) (fillI_done HL.out hlt), hb⟩
set_option maxHeartbeats 400000 in
theorem szIntSS (v : Value) (m : List (List Int)) (left : Int) (w : World) (h : Mat w v m) (h0 : 0 ≤ left) (h1 : left ≤ 1048576) :
    Calls Tryd.prog 10 #[v, .int .i64 left] w fun e w' => Sz left (m.length + total m) e ∧ w = w' := by
  obtain ⟨a, n, cap, rfl, HL, hn, HC⟩ := h.open
  by_cases hlt0 : left - (n : Int) < 0
  · go_enter Tryd.func10, Tryd.ntmps10
    go_wp2
    go_ret
    exact ⟨⟨_, rfl, by omega, by omega, Lib.hid (by omega)⟩, rfl⟩
  · go_enter Tryd.func10, Tryd.ntmps10
    go_wp2
    go_loop [1, 5] (fun t i => ∃ (j : Nat) (r : Int), j ≤ n ∧ i = .int .i64 j ∧ t = .int .i64 r ∧ 0 ≤ r ∧ r ≤ left ∧ Hid (r + (n + total (m.take j) : Nat) ≤ left)) (fun _ i => n - (intOf i).toNat)
    case atStart => exact ⟨0, left - n, Nat.zero_le _, rfl, rfl, by omega, by omega, Lib.hid (by have : total (m.take 0) = 0 := rfl; omega)⟩
    case round =>
      obtain ⟨j, r, hj, rfl, rfl, hr0, hr1, HR⟩ := hrel
      by_cases hlt : j < n
      · obtain ⟨b, off, u, row, rfl, hc, HX, hu⟩ := HC.out j hlt
        go_wp2_with (go_at_call 24; refine (szIntS _ row _ _ hu hr0 (by omega)).mono ?_; rintro e w' ⟨⟨r', rfl, hr2, hr3, HR'⟩, rfl⟩)
        · go_ret
          exact ⟨⟨_, rfl, by omega, by omega, Lib.hid (by omega)⟩, rfl⟩
        · go_round
          case rel => exact ⟨j + 1, r', by omega, by go_num, rfl, by omega, by omega, Lib.hid (by have := HR.out; have := HR'.out; have := total_take_succ HX.out; omega)⟩
          case measure => simp [intOf]; omega
      · go_wp2
        go_ret
        exact ⟨⟨_, rfl, by omega, by omega, Lib.hid (by have := HR.out; rw [total_take_all HL.out hlt] at this; rw [HL.out]; omega)⟩, rfl⟩
set_option maxHeartbeats 400000 in
theorem eqIntSS (v v' : Value) (l l' : List (List Int)) (w : World) (h : Mat w v l) (h' : Mat w v' l') :
    Calls Tryd.prog 14 #[v, v'] w fun e w' => e = .returned (.bool (same l l')) ∧ Drawn w w' := by
  obtain ⟨a, n, cap, rfl, HL, hn, HC⟩ := h.open
  obtain ⟨a', n', cap', rfl, HL', hn', HC'⟩ := h'.open
  by_cases hne : n = n'
  · subst hne
    go_enter Tryd.func14, Tryd.ntmps14
    go_wp2
    go_loopw [5] (fun i wr => (∃ j : Nat, j ≤ n ∧ i = .int .i64 j ∧ Hid (l.take j = l'.take j)) ∧ Drawn w wr) (fun i _ => n - (intOf i).toNat)
    case atStart => exact ⟨⟨0, Nat.zero_le _, rfl, Lib.hid rfl⟩, Drawn.refl _⟩
    case round =>
      obtain ⟨⟨j, hj, rfl, HT⟩, hd⟩ := hrel
      by_cases hlt : j < n
      · obtain ⟨b, off, x, r, rfl, hc, HX, hr⟩ := HC.out j hlt
        obtain ⟨b', off', x', r', rfl, hc', HX', hr'⟩ := HC'.out j hlt
        have hc1 := hd.cell hc
        have hc1' := hd.cell hc'
        go_wp2
        go_quiet ((go_at_call 30; exact Calls.quiet_of (eqIntS _ _ r r' _ (hr.keep ((hd.drewN _).below _)) (hr'.keep ((hd.drewN _).below _)))))
        go_wp2
        · go_ret
          exact ⟨ret_bool (same_ne (ne_of_get HX.out HX'.out (by intro e; subst e; simp_all [same_refl]))).symm, hd.drewN _⟩
        · go_roundw
          case rel => exact ⟨⟨j + 1, by omega, by go_num, Lib.hid (take_eq_succ HT.out HX.out HX'.out (of_same (by simp_all)))⟩, hd.drewN _⟩
          case measure => simp [intOf]; omega
      · go_wp2
        go_ret
        exact ⟨ret_bool (same_eq (eq_of_take_all HL.out HL'.out HT.out hlt)).symm, hd⟩
  · go_enter Tryd.func14, Tryd.ntmps14
    go_wp2
    go_ret
    exact ⟨ret_bool (same_ne (ne_of_len HL.out HL'.out hne)).symm, Drawn.refl _⟩
set_option maxHeartbeats 400000 in
theorem toIntSS (v : Value) (m : List (List Int)) (w : World) (h : Mat w v m) (hs : m.length + total m ≤ 1048576) :
    Calls Tryd.prog 12 #[v] w fun e w' => ∃ v', e = .returned v' ∧ OwnMat 44 3 w.heap.size w' v' m ∧ Below w.heap.size w w' := by
  obtain ⟨a, n, cap, rfl, HL, hn, HC⟩ := h.open
  rw [HL.out] at hs
  have hmk := fun w => run_make_row' (P := Tryd.prog) 31 44 (.slice none 0 0) 24 Tryd.underlying31 Tryd.infoInts rfl .i64 .i64 n (by omega) (by omega) w
  go_enter Tryd.func12, Tryd.ntmps12
  go_wp2
  go_loopw [4] (fun i wr => ∃ (j : Nat) (vs : List Value), j ≤ n ∧ i = .int .i64 j ∧ Below w.heap.size w wr ∧ w.heap.size + 1 ≤ wr.heap.size ∧ wr.rowIs w.heap.size 44 n (fillV vs (.slice none 0 0)) ∧ OwnRows 3 (w.heap.size + 1) wr vs (m.take j)) (fun i _ => n - (intOf i).toNat)
  case atStart => exact ⟨0, [], Nat.zero_le _, rfl, (Below.refl _ _).alloc (Nat.le_refl _) _, by simp, World.rowIs_made _ _ _ _, OwnRows.nil _ _ _⟩
  case round =>
    obtain ⟨j, vs, hj, rfl, hb, hsz, hr, how⟩ := hrel
    by_cases hlt : j < n
    · obtain ⟨b, off, u, row, rfl, hc, HX, hu⟩ := HC.out j hlt
      have hc1 := cell_keep hb hc
      go_wp2_with (go_at_call 27; refine (toIntS _ row _ (hu.keep hb) (by have := len_le_total HX.out; omega)).mono ?_; rintro e w1 ⟨v', rfl, hown, hb1⟩; obtain ⟨ao, no, co, rfl⟩ := hown.formI; have hc2 := (hr.of_block (hb1.block _ hsz)).cell hlt; have hf2 := (hr.of_block (hb1.block _ hsz)).frozen j)
      go_roundw
      case rel =>
        have e := how.1
        rw [List.length_take, HL.out, Nat.min_eq_left hj] at e
        exact ⟨j + 1, vs ++ [.slice ao no co], by omega, by go_num, (hb.trans (hb1.mono (by omega))).setCell (Nat.le_refl _) _, by have := hb1.size; simp; omega,
          ((hr.of_block (hb1.block _ hsz)).set j _).congr fun i _ => by rw [← e]; exact fillV_step _ _ _ _,
          by rw [take_snoc HX.out]; exact ((how.keep (hb1.mono (by omega))).snoc (fun u hu k hk => (how.lt u hu k hk).2) hown hsz).setCell_below (by simp) _⟩
      case measure => simp [intOf]; omega
    · have e := how.1
      rw [List.take_of_length_le (by rw [HL.out]; omega)] at how e
      go_wp2
      go_ret
      exact ⟨_, rfl, ⟨vs, Own.of_rowIs hr (Nat.le_refl _) (by rw [e]; exact HL.out) (by unfold maxLen; omega) (fun i hi => fillV_done _ _ _ (by rw [e, HL.out]; exact hi)), how.mono (by omega)⟩, hb⟩

end Go.Proofs.YtkimijmiaidlgaaDoor
