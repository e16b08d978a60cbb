/- Contracts of IsPath, the program's and the reference's. No statement is proved here. -/
import Derived.Test.YtenjakgahniijaaArcs
namespace Go.Proofs.Ytenjakgahniijaa
open Go.RowKit Go.Deep
/-- Number k of a path is an arc, and begins where the one ahead of it ends. -/
def stepOk (L : List (List Int)) (p : List Int) (k : Nat) : Bool :=
  inR (p.getD k 0) 0 ((L.length : Int) - 1) && (decide (k = 0) || ent L (p.getD (k - 1) 0).toNat 1 == ent L (p.getD k 0).toNat 0)
def pathOk (L : List (List Int)) (p : List Int) : Bool := (List.range p.length).all (stepOk L p)
def isPath (m : List (List Int)) (p : List Int) : Bool := isGr m && pathOk (arcs m) p
theorem range_get {n j : Nat} (h : j < n) : (List.range n)[j]? = some j := by simp [h]
theorem stepOk_out {L : List (List Int)} {p : List Int} {k : Nat} {x : Int} (hx : p[k]? = some x) (h : inR x 0 ((L.length : Int) - 1) = false) : stepOk L p k = false := by
  unfold stepOk; rw [getD_of_get hx, h, Bool.false_and]
theorem stepOk_zero {L : List (List Int)} {p : List Int} {x : Int} (hx : p[0]? = some x) (h : inR x 0 ((L.length : Int) - 1) = true) : stepOk L p 0 = true := by
  unfold stepOk; rw [getD_of_get hx, h]; rfl
theorem stepOk_succ {L : List (List Int)} {p : List Int} {k X Y : Nat} (hx : p[k + 1]? = some (X : Int)) (hy : p[k]? = some (Y : Int)) (h : inR (X : Int) 0 ((L.length : Int) - 1) = true) {a b : Int} (ha : ent L Y 1 = a) (hb : ent L X 0 = b) : stepOk L p (k + 1) = (a == b) := by
  unfold stepOk; rw [getD_of_get hx, h, Nat.add_sub_cancel, getD_of_get hy, Int.toNat_natCast, Int.toNat_natCast, ha, hb]; simp
theorem stepOk_in {L : List (List Int)} {p : List Int} {k : Nat} {x : Int} (hx : p[k]? = some x) (h : stepOk L p k = true) : 0 ≤ x ∧ x ≤ (L.length : Int) - 1 := by
  unfold stepOk at h; rw [getD_of_get hx] at h; simp only [Bool.and_eq_true] at h; exact inR_iff.1 h.1
theorem pathOk_take {L : List (List Int)} {p : List Int} {k n : Nat} (h : ((List.range n).take (k + 1)).all (stepOk L p) = true) (hk : k < n) : stepOk L p k = true := by
  rw [List.all_eq_true] at h
  refine h k ?_
  rw [List.mem_take_iff_getElem]
  exact ⟨k, by simp; omega, by simp⟩
theorem l1InB (a b c : Int) (r : Bool) (w : World) (h : inR a b c = r) : Calls Try.prog 57 #[.int .i64 a, .int .i64 b, .int .i64 c] w fun e w' => e = .returned (.bool r) ∧ w' = w := by
  subst h; exact (l1In a b c w).mono fun _ _ h => ⟨h.1, h.2.symm⟩
set_option maxRecDepth 10000 in
set_option maxHeartbeats 400000 in
theorem sIsPath (v u : Value) (m : List (List Int)) (p : List Int) (w : World) (h : Mat w v m) (k : Ints w u p) :
    Calls Try.prog 17 #[v, u] w fun e w' => e = .returned (.bool (isPath m p)) ∧ Below w.heap.size w w' := by
  cases hm : isGr m
  · have HI := Lib.hid hm; clear hm
    go_enter Try.func17, Try.ntmps17
    go_wp2_with (go_at_call 24; refine (sIsGraph _ m _ h).mono ?_; rintro e w2 ⟨rfl, rfl⟩; rw [HI.out])
    go_ret
    exact ⟨ret_bool (by unfold isPath; rw [HI.out]; rfl), Below.refl _ _⟩
  have HI := Lib.hid hm; clear hm
  go_enter Try.func17, Try.ntmps17
  go_wp2_with fail
  refine (sIsGraph _ m _ h).mono ?_
  rintro e w2 ⟨rfl, rfl⟩
  rw [HI.out]
  go_wp2_with fail
  refine (sarcs _ m _ h HI.out).mono ?_
  rintro e w1 ⟨v1, rfl, ho, hb⟩
  obtain ⟨a, N, cap, rfl, HL, hn, HC⟩ := ho.mat.open
  clear ho
  obtain ⟨a2, n, cap2, rfl, HL2, hn2, HC2⟩ := (k.keep hb).open
  clear k h
  have hN : N ≤ 60 := by have := (arcs_small HI.out).1; rw [HL.out] at this; exact this
  go_wp2
  go_loopw [6] (fun i wr => ∃ j : Nat, j ≤ n ∧ i = .int .i64 j ∧ Hid (((List.range n).take j).all (stepOk (arcs m) p) = true) ∧ Drawn w1 wr) (fun i _ => n - (intOf i).toNat)
  case atStart => exact ⟨0, Nat.zero_le _, rfl, Lib.hid (by simp), Drawn.refl _⟩
  case round =>
    obtain ⟨j, hj, rfl, HT, hd⟩ := hrel
    by_cases hlt : j < n
    · obtain ⟨b2, o2, x, rfl, hc2, HX⟩ := HC2.out j hlt
      have hk2 := hd.cell hc2
      cases hin : inR x 0 ((N : Int) - 1)
      · have HIN := Lib.hid hin; clear hin
        go_wp2
        go_quiet ((go_at_call 57; exact Calls.quiet_of_same (l1InB _ _ _ false _ HIN.out)))
        go_wp2
        go_ret
        exact ⟨ret_bool (by unfold isPath pathOk; rw [HL2.out, all_false (range_get hlt) (stepOk_out HX.out (by rw [HL.out]; exact HIN.out)), Bool.and_false]), (hb.trans ((hd.drewN _).below _))⟩
      · have hb0 := (inR_iff.1 hin)
        have HIN := Lib.hid hin; clear hin
        obtain ⟨X, rfl⟩ := Int.eq_ofNat_of_zero_le hb0.1
        have hXN : X < N := by omega
        clear hb0
        cases j with
        | zero =>
          rw [Nat.add_zero] at hk2
          rw [show ((0 : Nat) : Int) = 0 from rfl]
          go_wp2
          go_quiet ((go_at_call 57; exact Calls.quiet_of_same (l1InB _ _ _ true _ HIN.out)))
          go_wp2
          go_roundw
          case rel => exact ⟨1, by omega, rfl, Lib.hid (all_take_succ (range_get hlt) HT.out (stepOk_zero HX.out (by rw [HL.out]; exact HIN.out))), hd.drewN _⟩
          case measure => simp [intOf]; omega
        | succ j =>
          have hjn : j < n := by omega
          obtain ⟨b3, o3, y, hab, hc3, HY⟩ := HC2.out j hjn
          cases hab
          have hy0 := stepOk_in HY.out (pathOk_take HT.out hjn)
          rw [HL.out] at hy0
          obtain ⟨Y, rfl⟩ := Int.eq_ofNat_of_zero_le hy0.1
          have hYN : Y < N := by omega
          clear hy0
          have hk3 := hd.cell hc3
          obtain ⟨b4, o4, ux, rx, rfl, hc4, HRX, hux⟩ := HC.out X hXN
          obtain ⟨b5, o5, uy, ry, hab, hc5, HRY, huy⟩ := HC.out Y hYN
          cases hab
          obtain ⟨x0, x1, _, _, rfl⟩ := arcs_mem (List.mem_of_getElem? HRX.out)
          obtain ⟨y0, y1, _, _, rfl⟩ := arcs_mem (List.mem_of_getElem? HRY.out)
          obtain ⟨ax, nx, cx, rfl, HLx, hnx, HCx⟩ := hux.open
          obtain ⟨ay, ny, cy, rfl, HLy, hny, HCy⟩ := huy.open
          have hnx2 : nx = 2 := HLx.out.symm
          have hny2 : ny = 2 := HLy.out.symm
          subst hnx2 hny2
          obtain ⟨b6, o6, q0, rfl, hc6, HQ0⟩ := HCx.out 0 (by omega)
          obtain ⟨b7, o7, q1, rfl, hc7, HQ1⟩ := HCy.out 1 (by omega)
          obtain rfl : (x0 : Int) = q0 := by have := HQ0.out; simpa using this
          obtain rfl : (y1 : Int) = q1 := by have := HQ1.out; simpa using this
          rw [Nat.add_zero] at hc6
          have hk4 := hd.cell hc4
          have hk5 := hd.cell hc5
          have hk6 := hd.cell hc6
          have hk7 := hd.cell hc7
          have HS := Lib.hid (stepOk_succ HX.out HY.out (by rw [HL.out]; exact HIN.out) (ent_of HRY.out HQ1.out) (ent_of HRX.out HQ0.out))
          clear hux huy hc2 hc3 hc4 hc5 hc6 hc7
          cases he : ((y1 : Int) == (x0 : Int))
          · have hne : ((y1 : Int) != (x0 : Int)) = true := by rw [bne, he]; rfl
            have HE := Lib.hid he; clear he
            go_wp2
            go_quiet ((go_at_call 57; exact Calls.quiet_of_same (l1InB _ _ _ true _ HIN.out)))
            go_wp2
            go_ret
            exact ⟨ret_bool (by unfold isPath pathOk; rw [HL2.out, all_false (range_get hlt) (HS.out.trans HE.out), Bool.and_false]), (hb.trans ((hd.drewN _).below _))⟩
          · have hne : ((y1 : Int) != (x0 : Int)) = false := by rw [bne, he]; rfl
            have HE := Lib.hid he; clear he
            go_wp2
            go_quiet ((go_at_call 57; exact Calls.quiet_of_same (l1InB _ _ _ true _ HIN.out)))
            go_wp2
            go_roundw
            case rel => exact ⟨j + 2, by omega, by go_num, Lib.hid (all_take_succ (range_get hlt) HT.out (HS.out.trans HE.out)), hd.drewN _⟩
            case measure => simp [intOf]; omega
    · go_wp2
      go_ret
      exact ⟨ret_bool (by unfold isPath pathOk; rw [HL2.out, HI.out, all_take_all (List.length_range) hlt HT.out]; rfl), hb.trans (hd.below _)⟩
set_option maxRecDepth 10000 in
set_option maxHeartbeats 800000 in
theorem iIsPath (v u : Value) (m : List (List Int)) (p : List Int) (w : World) (h : Mat w v m) (k : Ints w u p) :
    Calls Try.prog 16 #[v, u] w fun e w' => e = .returned (.bool (isPath m p)) ∧ Below w.heap.size w w' := by
  cases hm : isGr m
  · have HI := Lib.hid hm; clear hm
    go_enter Try.func16, Try.ntmps16
    go_wp2_with (go_at_call 23; refine (iIsGraph _ m _ h).mono ?_; rintro e w2 ⟨rfl, rfl⟩; rw [HI.out])
    go_ret
    exact ⟨ret_bool (by unfold isPath; rw [HI.out]; rfl), Below.refl _ _⟩
  have HI := Lib.hid hm; clear hm
  go_enter Try.func16, Try.ntmps16
  go_wp2_with fail
  refine (iIsGraph _ m _ h).mono ?_
  rintro e w2 ⟨rfl, rfl⟩
  rw [HI.out]
  go_wp2_with fail
  refine (iarcs _ m _ h HI.out).mono ?_
  rintro e w1 ⟨v1, rfl, ho, hb⟩
  obtain ⟨a, N, cap, rfl, HL, hn, HC⟩ := ho.mat.open
  clear ho
  obtain ⟨a2, n, cap2, rfl, HL2, hn2, HC2⟩ := (k.keep hb).open
  clear k h
  have hN : N ≤ 60 := by have := (arcs_small HI.out).1; rw [HL.out] at this; exact this
  go_wp2
  go_loopw [15] (fun i wr => ∃ j : Nat, j ≤ n ∧ i = .int .i64 j ∧ Hid (((List.range n).take j).all (stepOk (arcs m) p) = true) ∧ Drawn w1 wr) (fun i _ => n - (intOf i).toNat)
  case atStart => exact ⟨0, Nat.zero_le _, rfl, Lib.hid (by simp), Drawn.refl _⟩
  case round =>
    obtain ⟨j, hj, rfl, HT, hd⟩ := hrel
    by_cases hlt : j < n
    · obtain ⟨b2, o2, x, rfl, hc2, HX⟩ := HC2.out j hlt
      have hk2 := hd.cell hc2
      by_cases hx0 : x < 0
      · have HIN : Hid (inR x 0 ((N : Int) - 1) = false) := Lib.hid (inR_no.2 (by omega))
        go_wp2
        go_quiet (fail)
        go_wp2
        go_ret
        exact ⟨ret_bool (by unfold isPath pathOk; rw [HL2.out, all_false (range_get hlt) (stepOk_out HX.out (by rw [HL.out]; exact HIN.out)), Bool.and_false]), (hb.trans ((hd.drewN _).below _))⟩
      have hdx0 : decide (x < 0) = false := decide_eq_false hx0
      by_cases hxN : (N : Int) ≤ x
      · have hdxN : decide ((N : Int) ≤ x) = true := decide_eq_true hxN
        have HIN : Hid (inR x 0 ((N : Int) - 1) = false) := Lib.hid (inR_no.2 (by omega))
        go_wp2
        go_quiet (fail)
        go_wp2
        go_ret
        exact ⟨ret_bool (by unfold isPath pathOk; rw [HL2.out, all_false (range_get hlt) (stepOk_out HX.out (by rw [HL.out]; exact HIN.out)), Bool.and_false]), (hb.trans ((hd.drewN _).below _))⟩
      · have hdxN : decide ((N : Int) ≤ x) = false := decide_eq_false hxN
        have HIN : Hid (inR x 0 ((N : Int) - 1) = true) := Lib.hid (inR_iff.2 (by omega))
        have hb0 : 0 ≤ x ∧ x ≤ (N : Int) - 1 := by omega
        cases j with
        | zero =>
          rw [Nat.add_zero] at hk2
          rw [show ((0 : Nat) : Int) = 0 from rfl]
          go_wp2
          go_quiet (fail)
          go_wp2
          go_roundw
          case rel => exact ⟨1, by omega, rfl, Lib.hid (all_take_succ (range_get hlt) HT.out (stepOk_zero HX.out (by rw [HL.out]; exact HIN.out))), hd.drewN _⟩
          case measure => simp [intOf]; omega
        | succ j =>
          obtain ⟨X, rfl⟩ := Int.eq_ofNat_of_zero_le hb0.1
          have hXN : X < N := by omega
          clear hb0 hdxN hdx0
          have hdxN : decide (N ≤ X) = false := decide_eq_false (by omega)
          have hdx0 : decide ((X : Int) < 0) = false := decide_eq_false (by omega)
          have hdj : decide ((0 : Int) < (j : Int) + 1) = true := decide_eq_true (by omega)
          have hjn : j < n := by omega
          obtain ⟨b3, o3, y, hab, hc3, HY⟩ := HC2.out j hjn
          cases hab
          have hy0 := stepOk_in HY.out (pathOk_take HT.out hjn)
          rw [HL.out] at hy0
          obtain ⟨Y, rfl⟩ := Int.eq_ofNat_of_zero_le hy0.1
          have hYN : Y < N := by omega
          clear hy0
          have hk3 := hd.cell hc3
          obtain ⟨b4, o4, ux, rx, rfl, hc4, HRX, hux⟩ := HC.out X hXN
          obtain ⟨b5, o5, uy, ry, hab, hc5, HRY, huy⟩ := HC.out Y hYN
          cases hab
          obtain ⟨x0, x1, _, _, rfl⟩ := arcs_mem (List.mem_of_getElem? HRX.out)
          obtain ⟨y0, y1, _, _, rfl⟩ := arcs_mem (List.mem_of_getElem? HRY.out)
          obtain ⟨ax, nx, cx, rfl, HLx, hnx, HCx⟩ := hux.open
          obtain ⟨ay, ny, cy, rfl, HLy, hny, HCy⟩ := huy.open
          have hnx2 : nx = 2 := HLx.out.symm
          have hny2 : ny = 2 := HLy.out.symm
          subst hnx2 hny2
          obtain ⟨b6, o6, q0, rfl, hc6, HQ0⟩ := HCx.out 0 (by omega)
          obtain ⟨b7, o7, q1, rfl, hc7, HQ1⟩ := HCy.out 1 (by omega)
          obtain rfl : (x0 : Int) = q0 := by have := HQ0.out; simpa using this
          obtain rfl : (y1 : Int) = q1 := by have := HQ1.out; simpa using this
          rw [Nat.add_zero] at hc6
          have hk4 := hd.cell hc4
          have hk5 := hd.cell hc5
          have hk6 := hd.cell hc6
          have hk7 := hd.cell hc7
          have HS := Lib.hid (stepOk_succ HX.out HY.out (by rw [HL.out]; exact HIN.out) (ent_of HRY.out HQ1.out) (ent_of HRX.out HQ0.out))
          clear hux huy hc2 hc3 hc4 hc5 hc6 hc7
          cases he : ((y1 : Int) == (x0 : Int))
          · have hne : ((y1 : Int) != (x0 : Int)) = true := by rw [bne, he]; rfl
            have HE := Lib.hid he; clear he
            go_wp2
            go_quiet (fail)
            go_wp2
            go_ret
            exact ⟨ret_bool (by unfold isPath pathOk; rw [HL2.out, all_false (range_get hlt) (HS.out.trans HE.out), Bool.and_false]), (hb.trans ((hd.drewN _).below _))⟩
          · have hne : ((y1 : Int) != (x0 : Int)) = false := by rw [bne, he]; rfl
            have HE := Lib.hid he; clear he
            go_wp2
            go_quiet (fail)
            go_wp2
            go_roundw
            case rel => exact ⟨j + 2, by omega, by go_num, Lib.hid (all_take_succ (range_get hlt) HT.out (HS.out.trans HE.out)), hd.drewN _⟩
            case measure => simp [intOf]; omega
    · go_wp2
      go_ret
      exact ⟨ret_bool (by unfold isPath pathOk; rw [HL2.out, HI.out, all_take_all (List.length_range) hlt HT.out]; rfl), hb.trans (hd.below _)⟩
end Go.Proofs.Ytenjakgahniijaa
