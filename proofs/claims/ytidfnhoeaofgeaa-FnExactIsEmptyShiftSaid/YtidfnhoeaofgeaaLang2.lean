/- The reference's words of two letters that go on without end. No statement is proved here. -/
import Derived.Test.YtidfnhoeaofgeaaLang1
namespace Go.Proofs.Ytidfnhoeaofgeaa
open Go.RowKit Go.Deep
theorem anyT_no {α : Type} {p : α → Bool} {l : List α} {j : Nat} {x : α} (h : l[j]? = some x) (ht : (l.take j).any p = false) (hp : p x = false) : (l.take (j + 1)).any p = false := by
  rw [take_snoc h, List.any_append, ht]; simp [hp]
theorem anyT_yes {α : Type} {p : α → Bool} {l : List α} {j : Nat} {x : α} (h : l[j]? = some x) (hp : p x = true) : l.any p = true := List.any_eq_true.2 ⟨x, List.mem_of_getElem? h, hp⟩
theorem anyT_end {α : Type} {p : α → Bool} {l : List α} {n j : Nat} (hl : l.length = n) (hj : ¬ j < n) (ht : (l.take j).any p = false) : l.any p = false := by rwa [List.take_of_length_le (by omega)] at ht
theorem below_drewN2 (w : World) (n m : Nat) : Below w.heap.size w ((w.drewN n).drewN m) := ⟨rfl, rfl, rfl, Nat.le_refl _, fun _ _ => rfl⟩
theorem below_drewN3 (w : World) (n m k : Nat) : Below w.heap.size w (((w.drewN n).drewN m).drewN k) := ⟨rfl, rfl, rfl, Nat.le_refl _, fun _ _ => rfl⟩
set_option maxRecDepth 10000 in
set_option maxHeartbeats 800000 in
theorem sl3GoesT (k : Int) (v : Value) (l : List ByteArray) (vl : Value) (L : List ByteArray) (u : ByteArray) (w : World) (h : Strs w v l) (hz : ∀ x ∈ l, x.size ≤ 1048576) (hL : Strs w vl L) (hLz : ∀ x ∈ L, x.size = 2) (hu : u.size = 2) :
    Calls Try.prog 93 #[.agg #[.int .i64 k, v], vl, .string u, .bool true] w fun e w' => e = .returned (.bool (hasN (fol l) L u)) ∧ Below w.heap.size w w' := by
  have HZ := Lib.hid hz; clear hz
  have HLZ := Lib.hid hLz; clear hLz
  have hus1 : u.size ≤ 2 := by omega
  have hus2 : 1 < u.size := by omega
  have hus3 : 0 < u.size := by omega
  have hus4 : 1 ≤ u.size := by omega
  have hus5 : (1 : Int) ≤ (u.size : Int) := by omega
  have HU2 := Lib.hid hu; clear hu
  have hb0 := below_alloc w (.cells #[.int .i64 k, v] 30)
  have c1 : (w.alloc (.cells #[.int .i64 k, v] 30)).cell? ⟨w.heap.size, 1, none⟩ = some v := by simp
  obtain ⟨W0, hW0⟩ : ∃ W0, w.alloc (.cells #[.int .i64 k, v] 30) = W0 := ⟨_, rfl⟩
  have HW0 := Lib.hid hW0
  rw [hW0] at hb0 c1
  clear hW0
  obtain ⟨av, nv, cv, rfl, -⟩ := h.open
  obtain ⟨a, n, cap, rfl, HL, hn, HC⟩ := hL.open
  obtain ⟨bu, hbu, HBU, hbu9⟩ := byte_at hus2
  go_enter Try.func93, Try.ntmps93
  go_wp2
  go_loopw [9] (fun i wr => (∃ j : Nat, j ≤ n ∧ i = .int .i64 j ∧ Hid ((L.take j).any (fol l u) = false)) ∧ Drawn W0 wr) (fun i _ => n - (intOf i).toNat)
  case atStart => exact ⟨⟨0, Nat.zero_le _, rfl, Lib.hid (by simp)⟩, by rw [HW0.out]; exact Drawn.refl _⟩
  case round =>
    obtain ⟨⟨j, hj, rfl, HT⟩, hd⟩ := hrel
    have hbr := hb0.trans (hd.below w.heap.size)
    have d1 := hd.cell c1
    have hLr : Strs wr (.slice av nv cv) l := h.keep hbr
    by_cases hlt : j < n
    · obtain ⟨b, off, x, rfl, hcx, HX⟩ := HC.out j hlt
      have hcx1 := cell_keep hbr hcx
      clear hcx
      have hxs1 : x.size ≤ 2 := by rw [HLZ.out x (List.mem_of_getElem? HX.out)]; omega
      have hxs2 : 1 < x.size := by rw [HLZ.out x (List.mem_of_getElem? HX.out)]; omega
      have hxs3 : 1 ≤ x.size := by omega
      have hxs0 : 0 < x.size := by omega
      have hxs4 : (1 : Int) ≤ (x.size : Int) := by omega
      have hxs5 : (1 : Int) < (x.size : Int) := by omega
      obtain ⟨bx, hbx, HBX, hbx9⟩ := byte_at hxs0
      obtain ⟨y, hy⟩ : ∃ y, u ++ x.extract 1 x.size = y := ⟨_, rfl⟩
      have HY := Lib.hid hy
      have HV : Hid (fol l u x = (decide (bu = bx) && avo l y)) := Lib.hid (fol_eq HBU.out HBX.out hy)
      clear hy
      have hxe : (x.extract 1 x.size).size ≤ 2 := by rw [ByteArray.size_extract]; omega
      have hadd : (Op.stringOp .add u (x.extract 1 x.size)).run Try.prog = fun w => .ok (.string y) w := by funext w; rw [run_string_add_if, if_neg (by omega), HY.out]
      have hys : y.size ≤ 1048576 := by rw [← HY.out, ByteArray.size_append]; omega
      by_cases hcd : bu = bx
      · have hcd2 : ((bu.toNat : Int) == (bx.toNat : Int)) = true := by rw [hcd]; simp
        have hcd3 : ((bx.toNat : Int) == (bu.toNat : Int)) = true := by rw [hcd]; simp
        cases hA : avo l y
        · have HA := Lib.hid hA
          have HO := Lib.hid (anyT_no HX.out HT.out (by rw [HV.out, hA, Bool.and_false]))
          clear hA
          go_wp2
          go_quiet ((go_at_call 57; exact Calls.quiet_of_same (sAvoidsB _ l y _ _ (hLr.keep (below_drewN _ _)) HZ.out hys HA.out)))
          go_wp2
          go_quiet (fail)
          go_wp2
          go_roundw
          case rel => exact ⟨⟨j + 1, by omega, by go_num, HO⟩, by first | exact hd.drewN _ | exact (hd.drewN _).drewN _⟩
          case measure => simp [intOf]; omega
        · have HA := Lib.hid hA
          have HO := Lib.hid (anyT_yes (p := fol l u) HX.out (show fol l u x = true by rw [HV.out, hA, decide_eq_true hcd]; rfl))
          clear hA
          go_wp2
          go_quiet ((go_at_call 57; exact Calls.quiet_of_same (sAvoidsB _ l y _ _ (hLr.keep (below_drewN _ _)) HZ.out hys HA.out)))
          go_wp2
          go_ret
          exact ⟨ret_bool HO.out.symm, by first | exact hbr.trans ((Drawn.one _ _).below _) | exact hbr.trans (((Drawn.one _ _).drewN _).below _)⟩
      · have HO := Lib.hid (anyT_no HX.out HT.out (by rw [HV.out, decide_eq_false hcd, Bool.false_and]))
        have hne := u8_ne hcd
        have hne' := u8_ne (fun e => hcd e.symm)
        go_wp2
        go_quiet (fail)
        go_wp2
        go_quiet (fail)
        go_wp2
        go_roundw
        case rel => exact ⟨⟨j + 1, by omega, by go_num, HO⟩, by first | exact hd.drewN _ | exact (hd.drewN _).drewN _⟩
        case measure => simp [intOf]; omega
    · have HO := Lib.hid (anyT_end HL.out hlt HT.out)
      go_wp2
      go_ret
      exact ⟨ret_bool HO.out.symm, hbr⟩
set_option maxRecDepth 10000 in
set_option maxHeartbeats 800000 in
theorem sl3GoesF (k : Int) (v : Value) (l : List ByteArray) (vl : Value) (L : List ByteArray) (u : ByteArray) (w : World) (h : Strs w v l) (hz : ∀ x ∈ l, x.size ≤ 1048576) (hL : Strs w vl L) (hLz : ∀ x ∈ L, x.size = 2) (hu : u.size = 2) :
    Calls Try.prog 93 #[.agg #[.int .i64 k, v], vl, .string u, .bool false] w fun e w' => e = .returned (.bool (hasF (fol l) L u)) ∧ Below w.heap.size w w' := by
  have HZ := Lib.hid hz; clear hz
  have HLZ := Lib.hid hLz; clear hLz
  have hus1 : u.size ≤ 2 := by omega
  have hus2 : 1 < u.size := by omega
  have hus3 : 0 < u.size := by omega
  have hus4 : 1 ≤ u.size := by omega
  have hus5 : (1 : Int) ≤ (u.size : Int) := by omega
  have HU2 := Lib.hid hu; clear hu
  have hb0 := below_alloc w (.cells #[.int .i64 k, v] 30)
  have c1 : (w.alloc (.cells #[.int .i64 k, v] 30)).cell? ⟨w.heap.size, 1, none⟩ = some v := by simp
  obtain ⟨W0, hW0⟩ : ∃ W0, w.alloc (.cells #[.int .i64 k, v] 30) = W0 := ⟨_, rfl⟩
  have HW0 := Lib.hid hW0
  rw [hW0] at hb0 c1
  clear hW0
  obtain ⟨av, nv, cv, rfl, -⟩ := h.open
  obtain ⟨a, n, cap, rfl, HL, hn, HC⟩ := hL.open
  obtain ⟨bu, hbu, HBU, hbu9⟩ := byte_at hus3
  go_enter Try.func93, Try.ntmps93
  go_wp2
  go_loopw [9] (fun i wr => (∃ j : Nat, j ≤ n ∧ i = .int .i64 j ∧ Hid ((L.take j).any (fun v => fol l v u) = false)) ∧ Drawn W0 wr) (fun i _ => n - (intOf i).toNat)
  case atStart => exact ⟨⟨0, Nat.zero_le _, rfl, Lib.hid (by simp)⟩, by rw [HW0.out]; exact Drawn.refl _⟩
  case round =>
    obtain ⟨⟨j, hj, rfl, HT⟩, hd⟩ := hrel
    have hbr := hb0.trans (hd.below w.heap.size)
    have d1 := hd.cell c1
    have hLr : Strs wr (.slice av nv cv) l := h.keep hbr
    by_cases hlt : j < n
    · obtain ⟨b, off, x, rfl, hcx, HX⟩ := HC.out j hlt
      have hcx1 := cell_keep hbr hcx
      clear hcx
      have hxs1 : x.size ≤ 2 := by rw [HLZ.out x (List.mem_of_getElem? HX.out)]; omega
      have hxs2 : 1 < x.size := by rw [HLZ.out x (List.mem_of_getElem? HX.out)]; omega
      have hxs3 : 1 ≤ x.size := by omega
      have hxs0 : 0 < x.size := by omega
      have hxs4 : (1 : Int) ≤ (x.size : Int) := by omega
      have hxs5 : (1 : Int) < (x.size : Int) := by omega
      obtain ⟨bx, hbx, HBX, hbx9⟩ := byte_at hxs2
      obtain ⟨y, hy⟩ : ∃ y, x ++ u.extract 1 u.size = y := ⟨_, rfl⟩
      have HY := Lib.hid hy
      have HV : Hid (fol l x u = (decide (bx = bu) && avo l y)) := Lib.hid (fol_eq HBX.out HBU.out hy)
      clear hy
      have hxe : (u.extract 1 u.size).size ≤ 2 := by rw [ByteArray.size_extract]; omega
      have hadd : (Op.stringOp .add x (u.extract 1 u.size)).run Try.prog = fun w => .ok (.string y) w := by funext w; rw [run_string_add_if, if_neg (by omega), HY.out]
      have hys : y.size ≤ 1048576 := by rw [← HY.out, ByteArray.size_append]; omega
      by_cases hcd : bx = bu
      · have hcd2 : ((bu.toNat : Int) == (bx.toNat : Int)) = true := by rw [hcd]; simp
        have hcd3 : ((bx.toNat : Int) == (bu.toNat : Int)) = true := by rw [hcd]; simp
        cases hA : avo l y
        · have HA := Lib.hid hA
          have HO := Lib.hid (anyT_no HX.out HT.out (by rw [HV.out, hA, Bool.and_false]))
          clear hA
          go_wp2
          go_quiet (fail)
          go_wp2
          go_quiet ((go_at_call 57; exact (sAvoidsB _ l y _ _ (hLr.keep (below_drewN _ _)) HZ.out hys HA.out).mono fun _ _ h => ⟨h.1, _, h.2⟩))
          go_wp2
          go_roundw
          case rel => exact ⟨⟨j + 1, by omega, by go_num, HO⟩, by first | exact hd.drewN _ | exact (hd.drewN _).drewN _⟩
          case measure => simp [intOf]; omega
        · have HA := Lib.hid hA
          have HO := Lib.hid (anyT_yes (p := fun v => fol l v u) HX.out (show fol l x u = true by rw [HV.out, hA, decide_eq_true hcd]; rfl))
          clear hA
          go_wp2
          go_quiet (fail)
          go_wp2
          go_quiet ((go_at_call 57; exact (sAvoidsB _ l y _ _ (hLr.keep (below_drewN _ _)) HZ.out hys HA.out).mono fun _ _ h => ⟨h.1, _, h.2⟩))
          go_wp2
          go_ret
          exact ⟨ret_bool HO.out.symm, by first | exact hbr.trans ((Drawn.one _ _).below _) | exact hbr.trans (((Drawn.one _ _).drewN _).below _)⟩
      · have HO := Lib.hid (anyT_no HX.out HT.out (by rw [HV.out, decide_eq_false hcd, Bool.false_and]))
        have hne := u8_ne (fun e => hcd e.symm)
        have hne' := u8_ne hcd
        go_wp2
        go_quiet (fail)
        go_wp2
        go_quiet (fail)
        go_wp2
        go_roundw
        case rel => exact ⟨⟨j + 1, by omega, by go_num, HO⟩, by first | exact hd.drewN _ | exact (hd.drewN _).drewN _⟩
        case measure => simp [intOf]; omega
    · have HO := Lib.hid (anyT_end HL.out hlt HT.out)
      go_wp2
      go_ret
      exact ⟨ret_bool HO.out.symm, hbr⟩
end Go.Proofs.Ytidfnhoeaofgeaa
