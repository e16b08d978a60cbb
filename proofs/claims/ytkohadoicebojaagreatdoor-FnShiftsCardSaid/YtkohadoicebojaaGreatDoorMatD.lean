/- Contracts of tables of zeros and of TurnMatrix, the program's and the reference's. No statement is proved here. -/
import Derived.Test.YtkohadoicebojaaGreatDoorMatA
import Derived.Test.YtkohadoicebojaaGreatDoorTab
namespace Go.Proofs.YtkohadoicebojaaGreatDoor
open Go.RowKit Go.Deep
def zeroF : Nat → Nat → Int := fun _ _ => 0
set_option maxRecDepth 10000 in
set_option maxHeartbeats 400000 in
theorem sZero (r c : Nat) (w : World) (hr : r ≤ 100) (hc : c ≤ 100) :
    Calls Tryz.prog 100 #[.int .i64 r, .int .i64 c] w fun e w' => ∃ v, e = .returned v ∧ OwnMat 62 3 w.heap.size w' v (tabF r c zeroF) ∧ Below w.heap.size w w' := by
  have hmk := fun w => run_make_row' (P := Tryz.prog) 62 3 (.int .i64 0) 8 Tryz.underlying62 Tryz.infoInt rfl .i64 .i64 c (by omega) (by omega) w
  go_enter Tryz.func100, Tryz.ntmps100
  go_wp2
  go_loopw [5, 6] (fun v i wr => ∃ j : Nat, j ≤ r ∧ i = .int .i64 j ∧ OwnMat 62 3 w.heap.size wr v (tabF j c zeroF) ∧ Below w.heap.size w wr) (fun _ i _ => r - (intOf i).toNat)
  case atStart => exact ⟨0, Nat.zero_le _, rfl, OwnMat.empty _ _ _, (Below.refl _ _).alloc (Nat.le_refl _) _⟩
  case round =>
    obtain ⟨j, hj, rfl, ho, hb⟩ := hrel
    by_cases hlt : j < r
    · have hz := Own.zeros 3 wr c (by omega)
      have hH := ho.toH.keep (below_alloc wr (.cells (madeCells #[.int .i64 0] c) 3))
      have hs := hb.size
      have HL := Lib.hid (tabF_length j c zeroF)
      go_wp2_with (at_builtin; refine appM 24 62 3 Tryz.underlying24 Tryz.infoInts (by decide) hH hz hs (by simp) (by rw [HL.out]; omega) rfl _ _ rfl rfl rfl (by simp) ?_)
      intro v' w1 ho1 hg _
      go_wp2
      go_roundw
      case rel => exact ⟨j + 1, by omega, by go_num, by rw [tabF_succ]; exact ho1, (hb.alloc hs _).trans (grow_below hg (fun k hk => (ho.own k hk).1) (Nat.le_refl _) (by simp; omega))⟩
      case measure => simp [intOf]; omega
    · have e : j = r := by omega
      subst e
      go_wp2
      go_ret
      exact ⟨_, rfl, ho, hb⟩
def turnM (m : List (List Int)) : List (List Int) := if isMat m = true then tabF m.length m.length (fun i j => ent m j i) else []
theorem turnM_yes {m : List (List Int)} (h : isMat m = true) {n : Nat} (hn : m.length = n) : turnM m = tabF n n (fun i j => ent m j i) := by subst hn; exact if_pos h
theorem turnM_no {m : List (List Int)} (h : isMat m = false) : turnM m = [] := if_neg (by simp [h])
theorem turnM_size (m : List (List Int)) : (turnM m).length + total (turnM m) ≤ 4000000 := by
  cases h : isMat m
  · rw [turnM_no h]; decide
  · rw [turnM_yes h rfl]
    have h9 := (isMat_len h).2
    exact tabF_small _ _ _ (by omega) (by omega)
/-- The turned table, filled as far as row i (the old table's), number j. -/
def turnF (m : List (List Int)) (i j : Nat) : Nat → Nat → Int := fun a b => if b < i ∨ (b = i ∧ a < j) then ent m b a else 0
theorem turnF_step (m : List (List Int)) (n i j : Nat) (hj : j < n) (x : Int) (hx : ent m i j = x) : setAt (tabF n n (turnF m i j)) j i x = tabF n n (turnF m i (j + 1)) := by
  rw [setAt_tabF _ _ _ _ _ _ hj]
  apply tabF_congr
  intro a b ha hb
  unfold turnF
  by_cases e : a = j ∧ b = i
  · obtain ⟨rfl, rfl⟩ := e; rw [if_pos ⟨rfl, rfl⟩, if_pos (.inr ⟨rfl, by omega⟩), hx]
  · rw [if_neg e]
    by_cases e2 : b < i ∨ (b = i ∧ a < j)
    · rw [if_pos e2, if_pos (by omega)]
    · rw [if_neg e2, if_neg (by omega)]
theorem turnF_row (m : List (List Int)) (n i : Nat) : tabF n n (turnF m i n) = tabF n n (turnF m (i + 1) 0) := by
  apply tabF_congr
  intro a b ha hb
  unfold turnF
  by_cases e2 : b < i ∨ (b = i ∧ a < n)
  · rw [if_pos e2, if_pos (by omega)]
  · rw [if_neg e2, if_neg (by omega)]
theorem turnF_zero (m : List (List Int)) (n : Nat) : tabF n n (turnF m 0 0) = tabF n n zeroF := by
  apply tabF_congr
  intro a b ha hb
  unfold turnF zeroF
  rw [if_neg (by omega)]
theorem turnF_all (m : List (List Int)) (n : Nat) : tabF n n (turnF m n 0) = tabF n n (fun i j => ent m j i) := by
  apply tabF_congr
  intro a b ha hb
  unfold turnF
  rw [if_pos (by omega)]
set_option maxRecDepth 10000 in
set_option maxHeartbeats 400000 in
theorem sTurn (v : Value) (m : List (List Int)) (w : World) (h : Mat w v m) (hm : isMat m = true) :
    Calls Tryz.prog 71 #[v] w fun e w' => ∃ v', e = .returned v' ∧ OwnMat 62 3 w.heap.size w' v' (turnM m) ∧ Below w.heap.size w w' := by
  obtain ⟨a, n, cap, rfl, HL, hn, HC⟩ := h.open
  clear h
  have n9 : n ≤ 9 := by have := (isMat_len hm).2; have := HL.out; omega
  have HY := Lib.hid (turnM_yes hm HL.out)
  have HI := Lib.hid hm; clear hm
  go_enter Tryz.func71, Tryz.ntmps71
  go_wp2_with (go_at_call 100; refine (sZero n n _ (by omega) (by omega)).mono ?_; rintro e w1 ⟨v1, rfl, ho1, hb1⟩)
  go_loopw [4] (fun i wr => ∃ k : Nat, k ≤ n ∧ i = .int .i64 k ∧ OwnMat 62 3 w.heap.size wr v1 (tabF n n (turnF m k 0)) ∧ Below w.heap.size w wr) (fun i _ => n - (intOf i).toNat)
  case atStart => exact ⟨0, Nat.zero_le _, rfl, by rw [turnF_zero]; exact ho1, hb1⟩
  case round =>
    obtain ⟨k, hk, rfl, ho, hb⟩ := hrel
    by_cases hlt : k < n
    · obtain ⟨b, off, u, r, rfl, hc, HX, hu⟩ := HC.out k hlt
      obtain ⟨a', n', cap', rfl, HL', hn', HC'⟩ := hu.open
      have hnn : n' = n := by have := isMat_row HI.out HX.out; have := HL.out; have := HL'.out; omega
      subst hnn
      clear hu
      go_wp2
      go_loopw [5] (fun i wr => ∃ j : Nat, j ≤ n' ∧ i = .int .i64 j ∧ OwnMat 62 3 w.heap.size wr v1 (tabF n' n' (turnF m k j)) ∧ Below w.heap.size w wr) (fun i _ => n' - (intOf i).toNat)
      case atStart => exact ⟨0, Nat.zero_le _, rfl, ho, hb⟩
      case round =>
        obtain ⟨j, hj, rfl, ho, hb⟩ := hrel
        by_cases hlt' : j < n'
        · obtain ⟨b', off', x, rfl, hc', HX'⟩ := HC'.out j hlt'
          have hc1 := cell_keep hb hc
          have hc1' := cell_keep hb hc'
          obtain ⟨g, cg, gj, cj, rfl, hg1, hg2, hgf, hgB, HST⟩ := ho.at2 (by decide) (tabF_get hlt') (rowF_get hlt)
          rw [tabF_length] at *
          rw [rowF_length] at hg1
          clear ho
          go_wp2
          go_region
          go_wp2
          go_roundw
          case rel => exact ⟨j + 1, by omega, by go_num, by rw [← turnF_step m n' k j hlt' x (ent_of HX.out HX'.out)]; exact HST.out x, (hb.setCell hgB _).drew⟩
          case measure => simp [intOf]; omega
        · have e : j = n' := by omega
          subst e
          go_wp2
          go_roundw
          case rel => exact ⟨k + 1, by omega, by go_num, by rw [← turnF_row]; exact ho, hb⟩
          case measure => simp [intOf]; omega
    · have e : k = n := by omega
      subst e
      go_wp2
      go_ret
      exact ⟨_, rfl, by rw [HY.out, ← turnF_all]; exact ho, hb⟩
set_option maxRecDepth 10000 in
set_option maxHeartbeats 400000 in
theorem sTurnMatrix (v : Value) (m : List (List Int)) (w : World) (h : Mat w v m) :
    Calls Tryz.prog 23 #[v] w fun e w' => ∃ v', e = .returned v' ∧ OwnMat 62 3 w.heap.size w' v' (turnM m) ∧ Below w.heap.size w w' := by
  cases hm : isMat m
  · have HI := Lib.hid hm; clear hm
    go_enter Tryz.func23, Tryz.ntmps23
    go_wp2_with (go_at_call 17; refine (sIsMatrix _ m _ h).mono ?_; rintro e w2 ⟨rfl, rfl⟩; rw [HI.out])
    go_ret
    exact ⟨_, rfl, by rw [turnM_no HI.out]; exact OwnMat.empty _ _ _, below_alloc _ _⟩
  · have HI := Lib.hid hm; clear hm
    go_enter Tryz.func23, Tryz.ntmps23
    go_wp2_with (first | (go_at_call 17; refine (sIsMatrix _ m _ h).mono ?_; rintro e w2 ⟨rfl, rfl⟩; rw [HI.out]) | (go_at_call 71; refine (sTurn _ m _ h HI.out).mono ?_; rintro e w2 ⟨v2, rfl, ho2, hb2⟩))
    go_ret
    exact ⟨_, rfl, ho2, hb2⟩
set_option maxRecDepth 10000 in
set_option maxHeartbeats 400000 in
theorem iturned (v : Value) (m : List (List Int)) (w : World) (h : Mat w v m) (hm : isMat m = true) :
    Calls Tryz.prog 70 #[v] w fun e w' => ∃ v', e = .returned v' ∧ OwnMat 62 3 w.heap.size w' v' (turnM m) ∧ Below w.heap.size w w' := by
  obtain ⟨a, n, cap, rfl, HL, hn, HC⟩ := h.open
  clear h
  have n9 : n ≤ 9 := by have := (isMat_len hm).2; have := HL.out; omega
  have n1 : 0 < n := by have := (isMat_len hm).1; have := HL.out; omega
  have HY := Lib.hid (turnM_yes hm HL.out)
  have HI := Lib.hid hm; clear hm
  obtain ⟨b0, off0, u0, r0, rfl, hc0, HX0, hu0⟩ := HC.out 0 n1
  obtain ⟨a0, n0, cap0, rfl, HL0, hn0, -⟩ := hu0.open
  have hnn : n0 = n := by have := isMat_row HI.out HX0.out; have := HL.out; have := HL0.out; omega
  subst hnn
  clear hu0
  rw [Nat.add_zero] at hc0
  have hc0' := fun o => cell_keep (below_alloc w o) hc0
  go_enter Tryz.func70, Tryz.ntmps70
  go_wp2
  go_loopw [3, 12] (fun v i wr => ∃ j : Nat, j ≤ n0 ∧ i = .int .i64 j ∧ OwnMat 62 3 w.heap.size wr v (tabF j n0 (fun i j => ent m j i)) ∧ Below w.heap.size w wr) (fun _ i _ => n0 - (intOf i).toNat)
  case atStart => exact ⟨0, Nat.zero_le _, rfl, OwnMat.empty _ _ _, below_alloc _ _⟩
  case round =>
    obtain ⟨j, hj, rfl, ho, hb⟩ := hrel
    by_cases hlt : j < n0
    · have hH := ho.toH
      have hs := hb.size
      go_wp2
      go_loopw [5, 18] (fun q i wq => ∃ k : Nat, k ≤ n0 ∧ i = .int .i64 k ∧ Own 3 wr.heap.size wq q (ints (rowF k (fun b => ent m b j))) ∧ Below wr.heap.size wr wq) (fun _ i _ => n0 - (intOf i).toNat)
      case atStart => exact ⟨0, Nat.zero_le _, rfl, Own.empty _ _, below_alloc _ _⟩
      case round =>
        obtain ⟨k, hk, rfl, hq, hbq⟩ := hrel
        by_cases hlt' : k < n0
        · obtain ⟨b, off, u, r, hab, hc, HX, hu⟩ := HC.out k hlt'
          cases hab
          obtain ⟨a', n', cap', rfl, HL', hn', HC'⟩ := hu.open
          have hnn : n' = n0 := by have := isMat_row HI.out HX.out; have := HL.out; have := HL'.out; omega
          subst hnn
          clear hu
          obtain ⟨b', off', x, rfl, hc', HX'⟩ := HC'.out j hlt
          have hbb := hb.trans (hbq.mono hs)
          have hc1 := cell_keep hbb hc
          have hc1' := cell_keep hbb hc'
          have hsq := hbq.size
          have HLq := Lib.hid (rowF_length k (fun b => ent m b j))
          go_wp2_with (at_builtin; refine app1 62 3 8 (.int .i64 0) Tryz.underlying62 Tryz.infoInt rfl hq (.int .i64 x) rfl ?h1 ?h2 hsq rfl _ _ rfl rfl rfl (by simp) ?_)
          case h1 => rw [ints_length, HLq.out]; unfold maxLen; omega
          case h2 => rw [ints_length, HLq.out]; omega
          intro q' w1 hq1 hg _
          go_wp2
          go_roundw
          case rel => exact ⟨k + 1, by omega, by go_num, by rw [rowF_succ]; simp only [ints, List.map_append] at hq1 ⊢; rw [ent_of HX.out HX'.out]; exact hq1, hbq.trans (hq.below hg (Nat.le_refl _) hsq)⟩
          case measure => simp [intOf]; omega
        · have e : k = n0 := by omega
          subst e
          obtain ⟨aq, nq, cq, rfl⟩ := hq.formI
          have hHq := hH.keep hbq
          have hsq := hbq.size
          have HL2 := Lib.hid (tabF_length j k (fun i j => ent m j i))
          go_wp2_with (at_builtin; refine appM 24 62 3 Tryz.underlying24 Tryz.infoInts (by decide) hHq hq hs hsq (by rw [HL2.out]; omega) rfl _ _ rfl rfl rfl (by simp) ?_)
          intro v' w1 ho1 hg _
          go_wp2
          go_roundw
          case rel => exact ⟨j + 1, by omega, by go_num, by rw [tabF_succ]; exact ho1, (hb.trans (hbq.mono hs)).trans (grow_below hg (fun k hk => (ho.own k hk).1) (Nat.le_refl _) (by omega))⟩
          case measure => simp [intOf]; omega
    · have e : j = n0 := by omega
      subst e
      go_wp2
      go_ret
      exact ⟨_, rfl, by rw [HY.out]; exact ho, hb⟩
set_option maxRecDepth 10000 in
set_option maxHeartbeats 400000 in
theorem iTurnMatrix (v : Value) (m : List (List Int)) (w : World) (h : Mat w v m) :
    Calls Tryz.prog 22 #[v] w fun e w' => ∃ v', e = .returned v' ∧ OwnMat 62 3 w.heap.size w' v' (turnM m) ∧ Below w.heap.size w w' := by
  cases hm : isMat m
  · have HI := Lib.hid hm; clear hm
    go_enter Tryz.func22, Tryz.ntmps22
    go_wp2_with (go_at_call 16; refine (iIsMatrix _ m _ h).mono ?_; rintro e w2 ⟨rfl, rfl⟩; rw [HI.out])
    go_ret
    exact ⟨_, rfl, by rw [turnM_no HI.out]; exact OwnMat.nil _ _ _ _, Below.refl _ _⟩
  · have HI := Lib.hid hm; clear hm
    go_enter Tryz.func22, Tryz.ntmps22
    go_wp2_with (first | (go_at_call 16; refine (iIsMatrix _ m _ h).mono ?_; rintro e w2 ⟨rfl, rfl⟩; rw [HI.out]) | (go_at_call 70; refine (iturned _ m _ h HI.out).mono ?_; rintro e w2 ⟨v2, rfl, ho2, hb2⟩))
    go_ret
    exact ⟨_, rfl, ho2, hb2⟩
end Go.Proofs.YtkohadoicebojaaGreatDoor
