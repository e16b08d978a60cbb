/- Contracts of the laws' own helpers on slices of numbers and rows (sizes, copies, comparisons). No statement is proved here. -/
import Derived.Test.YtloicjojhfpihaaDoorRows
import Derived.Test.YtloicjojhfpihaaDoorMem
import Derived.Test.YtloicjojhfpihaaDoorPure
import Derived.WalkKit
import Derived.WalkSpells
import Derived.WalkLawsBesides
import Derived.BigQuiet
import Derived.Deep.QuietTactic
namespace Go.Proofs.YtloicjojhfpihaaDoor
open Go.RowKit Go.Deep
theorem Tryd.infoInts : (Tryd.prog.info? 42).map (fun i => (i.zero, i.size, i.bytes)) = some (some (.slice none 0 0), 1, 24) := by kernel_rfl
theorem Tryd.infoInt : (Tryd.prog.info? 3).map (fun i => (i.zero, i.size, i.bytes)) = some (some (.int .i64 0), 1, 8) := by kernel_rfl

set_option maxHeartbeats 400000 in
theorem eqIntS (v v' : Value) (l l' : List Int) (w : World) (h : Ints w v l) (h' : Ints w v' l') :
    Calls Tryd.prog 27 #[v, v'] w fun e w' => e = .returned (.bool (same l l')) ∧ Drawn w w' := by
  obtain ⟨a, n, cap, rfl, HL, hn, HC⟩ := h.open
  obtain ⟨a', n', cap', rfl, HL', hn', HC'⟩ := h'.open
  by_cases hne : n = n'
  · subst hne
    go_enter Tryd.func27, Tryd.ntmps27
    go_wp2
    go_loopw [5] (fun i wr => (∃ j : Nat, j ≤ n ∧ i = .int .i64 j ∧ Hid (l.take j = l'.take j)) ∧ Drawn w wr) (fun i _ => n - (intOf i).toNat)
    case atStart => exact ⟨⟨0, Nat.zero_le _, rfl, Lib.hid rfl⟩, Drawn.refl _⟩
    case round =>
      obtain ⟨⟨j, hj, rfl, HT⟩, hd⟩ := hrel
      by_cases hlt : j < n
      · obtain ⟨b, off, x, rfl, hc, HX⟩ := HC.out j hlt
        obtain ⟨b', off', x', rfl, hc', HX'⟩ := HC'.out j hlt
        have hc1 := hd.cell hc
        have hc1' := hd.cell hc'
        go_wp2
        go_quiet (fail)
        go_wp2
        · go_ret
          exact ⟨ret_bool (same_ne (ne_of_get HX.out HX'.out (by simp_all))).symm, hd.drewN _⟩
        · go_roundw
          case rel => exact ⟨⟨j + 1, by omega, by go_num, Lib.hid (take_eq_succ HT.out HX.out HX'.out (by simp_all))⟩, hd.drewN _⟩
          case measure => simp [intOf]; omega
      · go_wp2
        go_ret
        exact ⟨ret_bool (same_eq (eq_of_take_all HL.out HL'.out HT.out hlt)).symm, hd⟩
  · go_enter Tryd.func27, Tryd.ntmps27
    go_wp2
    go_ret
    exact ⟨ret_bool (same_ne (ne_of_len HL.out HL'.out hne)).symm, Drawn.refl _⟩
set_option maxHeartbeats 400000 in
theorem eqIntSS (v v' : Value) (l l' : List (List Int)) (w : World) (h : Mat w v l) (h' : Mat w v' l') :
    Calls Tryd.prog 12 #[v, v'] w fun e w' => e = .returned (.bool (same l l')) ∧ Drawn w w' := by
  obtain ⟨a, n, cap, rfl, HL, hn, HC⟩ := h.open
  obtain ⟨a', n', cap', rfl, HL', hn', HC'⟩ := h'.open
  by_cases hne : n = n'
  · subst hne
    go_enter Tryd.func12, Tryd.ntmps12
    go_wp2
    go_loopw [5] (fun i wr => (∃ j : Nat, j ≤ n ∧ i = .int .i64 j ∧ Hid (l.take j = l'.take j)) ∧ Drawn w wr) (fun i _ => n - (intOf i).toNat)
    case atStart => exact ⟨⟨0, Nat.zero_le _, rfl, Lib.hid rfl⟩, Drawn.refl _⟩
    case round =>
      obtain ⟨⟨j, hj, rfl, HT⟩, hd⟩ := hrel
      by_cases hlt : j < n
      · obtain ⟨b, off, x, r, rfl, hc, HX, hr⟩ := HC.out j hlt
        obtain ⟨b', off', x', r', rfl, hc', HX', hr'⟩ := HC'.out j hlt
        have hc1 := hd.cell hc
        have hc1' := hd.cell hc'
        go_wp2
        go_quiet ((go_at_call 27; exact Calls.quiet_of (eqIntS _ _ r r' _ (hr.keep ((hd.drewN _).below _)) (hr'.keep ((hd.drewN _).below _)))))
        go_wp2
        · go_ret
          exact ⟨ret_bool (same_ne (ne_of_get HX.out HX'.out (by intro e; subst e; simp_all [same_refl]))).symm, hd.drewN _⟩
        · go_roundw
          case rel => exact ⟨⟨j + 1, by omega, by go_num, Lib.hid (take_eq_succ HT.out HX.out HX'.out (of_same (by simp_all)))⟩, hd.drewN _⟩
          case measure => simp [intOf]; omega
      · go_wp2
        go_ret
        exact ⟨ret_bool (same_eq (eq_of_take_all HL.out HL'.out HT.out hlt)).symm, hd⟩
  · go_enter Tryd.func12, Tryd.ntmps12
    go_wp2
    go_ret
    exact ⟨ret_bool (same_ne (ne_of_len HL.out HL'.out hne)).symm, Drawn.refl _⟩

end Go.Proofs.YtloicjojhfpihaaDoor
