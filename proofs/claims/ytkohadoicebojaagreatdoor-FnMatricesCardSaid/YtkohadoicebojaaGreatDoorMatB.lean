/- Contracts of EqualMatrix and TraceOf, the program's and the reference's. No statement is proved here. -/
import Derived.Test.YtkohadoicebojaaGreatDoorMatA
namespace Go.Proofs.YtkohadoicebojaaGreatDoor
open Go.RowKit Go.Deep
set_option maxRecDepth 10000 in
set_option maxHeartbeats 400000 in
theorem slEqual (v v' : Value) (l l' : List Int) (w : World) (h : Ints w v l) (h' : Ints w v' l') :
    Calls Tryz.prog 73 #[v, v'] w fun e w' => e = .returned (.bool (same l l')) ∧ Drawn w w' := by
  obtain ⟨a, n, cap, rfl, HL, hn, HC⟩ := h.open
  obtain ⟨a', n', cap', rfl, HL', hn', HC'⟩ := h'.open
  by_cases hne : n = n'
  · subst hne
    go_enter Tryz.func73, Tryz.ntmps73
    go_wp2
    go_loopw [13] (fun i wr => (∃ j : Nat, j ≤ n ∧ i = .int .i64 j ∧ Hid (l.take j = l'.take j)) ∧ Drawn w wr) (fun i _ => n - (intOf i).toNat)
    case atStart => exact ⟨⟨0, Nat.zero_le _, rfl, Lib.hid rfl⟩, Drawn.refl _⟩
    case round =>
      obtain ⟨⟨j, hj, rfl, HT⟩, hd⟩ := hrel
      by_cases hlt : j < n
      · obtain ⟨b, off, x, rfl, hc, HX⟩ := HC.out j hlt
        obtain ⟨b', off', x', rfl, hc', HX'⟩ := HC'.out j hlt
        have hc1 := hd.cell hc
        have hc1' := hd.cell hc'
        go_wp2
        go_quiet (fail)
        go_wp2
        · go_ret
          exact ⟨ret_bool (same_ne (ne_of_get HX.out HX'.out (by simp_all))).symm, hd.drewN _⟩
        · go_roundw
          case rel => exact ⟨⟨j + 1, by omega, by go_num, Lib.hid (take_eq_succ HT.out HX.out HX'.out (by simp_all))⟩, hd.drewN _⟩
          case measure => simp [intOf]; omega
      · go_wp2
        go_ret
        exact ⟨ret_bool (same_eq (eq_of_take_all HL.out HL'.out HT.out hlt)).symm, hd⟩
  · go_enter Tryz.func73, Tryz.ntmps73
    go_wp2
    go_ret
    exact ⟨ret_bool (same_ne (ne_of_len HL.out HL'.out hne)).symm, Drawn.refl _⟩
set_option maxRecDepth 10000 in
set_option maxHeartbeats 400000 in
theorem slEqualFunc (v v' : Value) (l l' : List (List Int)) (w : World) (h : Mat w v l) (h' : Mat w v' l') :
    Calls Tryz.prog 72 #[v, v', .func (.func 73) #[] #[]] w fun e w' => e = .returned (.bool (same l l')) ∧ Drawn w w' := by
  obtain ⟨a, n, cap, rfl, HL, hn, HC⟩ := h.open
  obtain ⟨a', n', cap', rfl, HL', hn', HC'⟩ := h'.open
  by_cases hne : n = n'
  · subst hne
    go_enter Tryz.func72, Tryz.ntmps72
    go_wp2
    go_loopw [17] (fun i wr => (∃ j : Nat, j ≤ n ∧ i = .int .i64 j ∧ Hid (l.take j = l'.take j)) ∧ Drawn w wr) (fun i _ => n - (intOf i).toNat)
    case atStart => exact ⟨⟨0, Nat.zero_le _, rfl, Lib.hid rfl⟩, Drawn.refl _⟩
    case round =>
      obtain ⟨⟨j, hj, rfl, HT⟩, hd⟩ := hrel
      by_cases hlt : j < n
      · obtain ⟨b, off, x, r, rfl, hc, HX, hr⟩ := HC.out j hlt
        obtain ⟨b', off', x', r', rfl, hc', HX', hr'⟩ := HC'.out j hlt
        have hc1 := hd.cell hc
        have hc1' := hd.cell hc'
        go_wp2_with (go_at_call 73; refine (slEqual _ _ r r' _ (hr.keep (hd.below _)) (hr'.keep (hd.below _))).mono ?_; rintro e w2 ⟨rfl, hd2⟩)
        · go_ret
          exact ⟨ret_bool (same_ne (ne_of_get HX.out HX'.out (by intro e; subst e; simp_all [same_refl]))).symm, hd.trans hd2⟩
        · go_roundw
          case rel => exact ⟨⟨j + 1, by omega, by go_num, Lib.hid (take_eq_succ HT.out HX.out HX'.out (of_same (by simp_all)))⟩, hd.trans hd2⟩
          case measure => simp [intOf]; omega
      · go_wp2
        go_ret
        exact ⟨ret_bool (same_eq (eq_of_take_all HL.out HL'.out HT.out hlt)).symm, hd⟩
  · go_enter Tryz.func72, Tryz.ntmps72
    go_wp2
    go_ret
    exact ⟨ret_bool (same_ne (ne_of_len HL.out HL'.out hne)).symm, Drawn.refl _⟩
set_option maxRecDepth 10000 in
set_option maxHeartbeats 400000 in
theorem iEqualMatrix (v v' : Value) (l l' : List (List Int)) (w : World) (h : Mat w v l) (h' : Mat w v' l') :
    Calls Tryz.prog 24 #[v, v'] w fun e w' => e = .returned (.bool (same l l')) ∧ Drawn w w' := by
  go_enter Tryz.func24, Tryz.ntmps24
  go_wp2_with fail
  refine (slEqualFunc _ _ l l' _ h h').mono ?_
  rintro e w2 ⟨rfl, hd⟩
  go_wp2
  go_ret
  exact ⟨rfl, hd⟩
/-- The sum of the numbers on the diagonal of the first k rows. -/
def traceTo (m : List (List Int)) : Nat → Int
  | 0 => 0
  | k + 1 => traceTo m k + (m.getD k []).getD k 0
def traceOf (m : List (List Int)) : Int := if isMat m = true then traceTo m m.length else -1
theorem traceTo_step {m : List (List Int)} {k : Nat} {r : List Int} {x : Int} (hr : m[k]? = some r) (hx : r[k]? = some x) : traceTo m (k + 1) = traceTo m k + x := by
  simp [traceTo, hr, hx]
theorem traceTo_bd {m : List (List Int)} (h : isMat m = true) : ∀ k, k ≤ m.length → 0 ≤ traceTo m k ∧ traceTo m k ≤ 1000000 * k := by
  intro k
  induction k with
  | zero => intro _; simp [traceTo]
  | succ k ih =>
    intro hk
    have ih' := ih (by omega)
    have hr : m[k]? = some (m[k]'(by omega)) := List.getElem?_eq_getElem _
    have hl := isMat_row h hr
    have hx : (m[k]'(by omega))[k]? = some ((m[k]'(by omega))[k]'(by omega)) := List.getElem?_eq_getElem _
    have hb := isMat_num h hr hx
    rw [traceTo_step hr hx]
    omega
set_option maxRecDepth 10000 in
set_option maxHeartbeats 400000 in
theorem sTraceOf (v : Value) (m : List (List Int)) (w : World) (h : Mat w v m) :
    Calls Tryz.prog 19 #[v] w fun e w' => e = .returned (.int .i64 (traceOf m)) ∧ w = w' := by
  have HM := Lib.hid h
  obtain ⟨a, n, cap, rfl, HL, hn, HC⟩ := h.open
  clear h
  cases hm : isMat m
  · have HI := Lib.hid hm; clear hm
    go_enter Tryz.func19, Tryz.ntmps19
    go_wp2_with (go_at_call 17; refine (sIsMatrix _ m _ HM.out).mono ?_; rintro e w2 ⟨rfl, rfl⟩; rw [HI.out])
    go_ret
    exact ⟨ret_int (by unfold traceOf; rw [HI.out]; rfl), rfl⟩
  · have hl9 := isMat_len hm
    have HB := Lib.hid (traceTo_bd hm)
    have HI := Lib.hid hm; clear hm
    have n9 : n ≤ 9 := by have := HL.out; omega
    clear hl9
    go_enter Tryz.func19, Tryz.ntmps19
    go_wp2_with (go_at_call 17; refine (sIsMatrix _ m _ HM.out).mono ?_; rintro e w2 ⟨rfl, rfl⟩; rw [HI.out])
    go_loop [3, 4] (fun s i => ∃ (j : Nat) (t : Int), j ≤ n ∧ i = .int .i64 j ∧ s = .int .i64 t ∧ Hid (t = traceTo m j)) (fun _ i => n - (intOf i).toNat)
    case atStart => exact ⟨0, 0, Nat.zero_le _, rfl, rfl, Lib.hid rfl⟩
    case round =>
      obtain ⟨j, t, hj, rfl, rfl, HT⟩ := hrel
      by_cases hlt : j < n
      · obtain ⟨b, off, u, r, rfl, hc, HX, hu⟩ := HC.out j hlt
        obtain ⟨a', n', cap', rfl, HL', hn', HC'⟩ := hu.open
        have hlt' : j < n' := by have := isMat_row HI.out HX.out; have := HL.out; have := HL'.out; omega
        obtain ⟨b', off', x, rfl, hc', HX'⟩ := HC'.out j hlt'
        have hx := isMat_num HI.out HX.out HX'.out
        have hx0 := hx.1
        have hx1 := hx.2
        clear hx
        have ht0 : 0 ≤ t := by rw [HT.out]; exact (HB.out j (by rw [HL.out]; omega)).1
        have ht1 : t ≤ 9000000 := by rw [HT.out]; have := (HB.out j (by rw [HL.out]; omega)).2; omega
        go_wp2
        go_round
        case rel => exact ⟨j + 1, t + x, by omega, by go_num, rfl, Lib.hid (by rw [traceTo_step HX.out HX'.out, HT.out])⟩
        case measure => simp [intOf]; omega
      · go_wp2
        go_ret
        exact ⟨ret_int (by unfold traceOf; rw [HI.out, HT.out, HL.out, show j = n by omega]; rfl), rfl⟩
set_option maxRecDepth 10000 in
set_option maxHeartbeats 400000 in
theorem itrace (v : Value) (m : List (List Int)) (w : World) (h : Mat w v m) (hm : isMat m = true) :
    Calls Tryz.prog 68 #[v] w fun e w' => e = .returned (.int .i64 (traceTo m m.length)) ∧ w = w' := by
  obtain ⟨a, n, cap, rfl, HL, hn, HC⟩ := h.open
  clear h
  have hl9 := isMat_len hm
  have HB := Lib.hid (traceTo_bd hm)
  have HI := Lib.hid hm; clear hm
  have n9 : n ≤ 9 := by have := HL.out; omega
  clear hl9
  go_enter Tryz.func68, Tryz.ntmps68
  go_wp2
  go_loop [3, 8] (fun s i => ∃ (j : Nat) (t : Int), j ≤ n ∧ i = .int .i64 j ∧ s = .int .i64 t ∧ Hid (t = traceTo m j)) (fun _ i => n - (intOf i).toNat)
  case atStart => exact ⟨0, 0, Nat.zero_le _, rfl, rfl, Lib.hid rfl⟩
  case round =>
    obtain ⟨j, t, hj, rfl, rfl, HT⟩ := hrel
    by_cases hlt : j < n
    · obtain ⟨b, off, u, r, rfl, hc, HX, hu⟩ := HC.out j hlt
      obtain ⟨a', n', cap', rfl, HL', hn', HC'⟩ := hu.open
      have hlt' : j < n' := by have := isMat_row HI.out HX.out; have := HL.out; have := HL'.out; omega
      obtain ⟨b', off', x, rfl, hc', HX'⟩ := HC'.out j hlt'
      have hx := isMat_num HI.out HX.out HX'.out
      have hx0 := hx.1
      have hx1 := hx.2
      clear hx
      have ht0 : 0 ≤ t := by rw [HT.out]; exact (HB.out j (by rw [HL.out]; omega)).1
      have ht1 : t ≤ 9000000 := by rw [HT.out]; have := (HB.out j (by rw [HL.out]; omega)).2; omega
      go_wp2
      go_round
      case rel => exact ⟨j + 1, t + x, by omega, by go_num, rfl, Lib.hid (by rw [traceTo_step HX.out HX'.out, HT.out])⟩
      case measure => simp [intOf]; omega
    · go_wp2
      go_ret
      exact ⟨ret_int (by rw [HT.out, HL.out, show j = n by omega]), rfl⟩
set_option maxRecDepth 10000 in
set_option maxHeartbeats 400000 in
theorem iTraceOf (v : Value) (m : List (List Int)) (w : World) (h : Mat w v m) :
    Calls Tryz.prog 18 #[v] w fun e w' => e = .returned (.int .i64 (traceOf m)) ∧ w = w' := by
  have HM := Lib.hid h; clear h
  cases hm : isMat m
  · have HI := Lib.hid hm; clear hm
    go_enter Tryz.func18, Tryz.ntmps18
    go_wp2_with (go_at_call 16; refine (iIsMatrix _ m _ HM.out).mono ?_; rintro e w2 ⟨rfl, rfl⟩; rw [HI.out])
    go_ret
    exact ⟨ret_int (by unfold traceOf; rw [HI.out]; rfl), rfl⟩
  · have HI := Lib.hid hm; clear hm
    go_enter Tryz.func18, Tryz.ntmps18
    go_wp2_with (first | (go_at_call 16; refine (iIsMatrix _ m _ HM.out).mono ?_; rintro e w2 ⟨rfl, rfl⟩; rw [HI.out]) | (go_at_call 68; refine (itrace _ m _ HM.out HI.out).mono ?_; rintro e w2 ⟨rfl, rfl⟩))
    go_ret
    exact ⟨ret_int (by unfold traceOf; rw [HI.out]; rfl), rfl⟩

end Go.Proofs.YtkohadoicebojaaGreatDoor
