/- Contracts of the laws' own helpers that mark results and look for the marks. No statement is proved here. -/
import Derived.Test.YtloicjojhfpihaaDoorHelp
import Derived.Test.YtloicjojhfpihaaDoorTab
namespace Go.Proofs.YtloicjojhfpihaaDoor
open Go.RowKit Go.Deep
set_option maxRecDepth 10000 in
set_option maxHeartbeats 400000 in
theorem markIntS (B : Nat) (v : Value) (l : List Int) (k : Int) (w : World) (h : Own 3 B w v (ints l)) (hn : l.length ≤ 4000000) (h0 : 0 ≤ k) (h1 : k ≤ 4000000000) :
    Calls Tryd.prog 28 #[v, .int .i64 k] w fun e w' => e = .returned (.int .i64 (k + l.length)) ∧ Own 3 B w' v (ints (marks k l.length)) ∧ w.grownBy w' v.ownBlock ∧ w'.heap.size = w.heap.size := by
  obtain ⟨a, n, cap, rfl⟩ := h.formI
  have hl : l.length = n := by
    obtain ⟨a', c', e⟩ := h.form (ints_length l)
    simp only [Value.slice.injEq] at e
    exact e.2.1.symm
  rw [hl] at hn
  have HL := Lib.hid hl
  clear hl
  go_enter Tryd.func28, Tryd.ntmps28
  go_wp2
  go_loopw [1, 5] (fun q i wr => ∃ j : Nat, j ≤ n ∧ i = .int .i64 j ∧ q = .int .i64 (k + j) ∧ Own 3 B wr (.slice a n cap) (ints (markTo k l j)) ∧ w.grownBy wr (Value.slice a n cap).ownBlock ∧ Hid (wr.heap.size = w.heap.size)) (fun _ i _ => n - (intOf i).toNat)
  case atStart => exact ⟨0, Nat.zero_le _, rfl, by go_num, by rw [markTo_zero]; exact h, World.grownBy.refl _ _, Lib.hid rfl⟩
  case round =>
    obtain ⟨j, hj, rfl, rfl, ho, hg, HS⟩ := hrel
    by_cases hlt : j < n
    · obtain ⟨x, hx⟩ := markTo_get k (show j < l.length by rw [HL.out]; exact hlt)
      obtain ⟨g, c, e, hB, hc, hf, hset⟩ := ho.at (show (ints (markTo k l j))[j]? = some (.int .i64 x) by rw [ints_get?, hx]; rfl)
      simp only [Value.slice.injEq] at e
      obtain ⟨rfl, e2, rfl⟩ := e
      clear e2
      have HSET := Lib.hid (hset (.int .i64 (k + j)))
      clear hset ho
      have HG := Lib.hid hg; clear hg
      go_wp2
      go_roundw
      case rel =>
        have h2 := HSET.out.1
        rw [ints_set, markTo_step k (show j < l.length by rw [HL.out]; exact hlt)] at h2
        have h3 := HG.out
        exact ⟨j + 1, by omega, by go_num, by go_num, h2, ⟨HSET.out.2.os.trans h3.os, HSET.out.2.tape.trans h3.tape, HSET.out.2.output.trans h3.output, Nat.le_trans h3.size HSET.out.2.size, fun b hb hne => (HSET.out.2.block b (Nat.lt_of_lt_of_le hb h3.size) hne).trans (h3.block b hb hne)⟩, Lib.hid (by simp [World.setCell]; exact HS.out)⟩
      case measure => simp [intOf]; omega
    · have e : j = n := by omega
      subst e
      rw [← HL.out, markTo_all] at ho
      go_wp2
      go_ret
      exact ⟨ret_int (by rw [HL.out]), by rw [HL.out] at ho ⊢; exact ho, hg, HS.out⟩
set_option maxRecDepth 10000 in
set_option maxHeartbeats 400000 in
theorem heldIntS (v : Value) (n : Nat) (k : Int) (w : World) (h : Ints w v (marks k n)) (hn : n ≤ 4000000) (h0 : 0 ≤ k) (h1 : k ≤ 4000000000) :
    Calls Tryd.prog 29 #[v, .int .i64 k] w fun e w' => e = .returned (.int .i64 (k + n)) ∧ Drawn w w' := by
  obtain ⟨a, n', cap, rfl, HL, hn', HC⟩ := h.open
  have hl : n' = n := by have := HL.out; rw [marks_length] at this; omega
  subst hl
  go_enter Tryd.func29, Tryd.ntmps29
  go_wp2
  go_loopw [1, 5] (fun q i wr => ∃ j : Nat, j ≤ n' ∧ i = .int .i64 j ∧ q = .int .i64 (k + j) ∧ Drawn w wr) (fun _ i _ => n' - (intOf i).toNat)
  case atStart => exact ⟨0, Nat.zero_le _, rfl, by go_num, Drawn.refl _⟩
  case round =>
    obtain ⟨j, hj, rfl, rfl, hd⟩ := hrel
    by_cases hlt : j < n'
    · obtain ⟨b, off, x, rfl, hc, HX⟩ := HC.out j hlt
      have hx : x = k + j := by have := HX.out; unfold marks at this; rw [rowF_get hlt] at this; exact (Option.some.inj this).symm
      subst hx
      have hc1 := hd.cell hc
      go_wp2
      first | (go_quiet (fail); go_wp2) | skip
      go_roundw
      case rel => exact ⟨j + 1, by omega, by go_num, by go_num, by first | exact hd | exact hd.drewN _⟩
      case measure => simp [intOf]; omega
    · go_wp2
      go_ret
      exact ⟨ret_int (by omega), hd⟩
set_option maxRecDepth 10000 in
set_option maxHeartbeats 400000 in
theorem markIntSS (B H : Nat) (v : Value) (m : List (List Int)) (k : Int) (w : World) (h : OwnMatH 42 3 B H w v m) (hn : m.length + total m ≤ 4000000) (h0 : 0 ≤ k) (h1 : k ≤ 4000000) :
    Calls Tryd.prog 13 #[v, .int .i64 k] w fun e w' => e = .returned (.int .i64 (k + total m)) ∧ OwnMatH 42 3 B H w' v (marksM k m) ∧ Chg B H w w' := by
  obtain ⟨a, n, cap, rfl, HL, hn', -⟩ := h.mat.open
  rw [HL.out] at hn
  go_enter Tryd.func13, Tryd.ntmps13
  go_wp2
  go_loopw [1, 5] (fun q i wr => ∃ j : Nat, j ≤ n ∧ i = .int .i64 j ∧ q = .int .i64 (k + (total (m.take j) : Nat)) ∧ Hid (OwnMatH 42 3 B H wr (.slice a n cap) ((marksM k m).take j ++ m.drop j)) ∧ Hid (Chg B H w wr)) (fun _ i _ => n - (intOf i).toNat)
  case atStart => exact ⟨0, Nat.zero_le _, rfl, by have : total (m.take 0) = 0 := rfl; rw [this]; go_num, Lib.hid (by simpa using h), Lib.hid (Chg.refl _ _ _)⟩
  case round =>
    obtain ⟨j, hj, rfl, rfl, HO, HG⟩ := hrel
    by_cases hlt : j < n
    · have hjm : j < m.length := by rw [HL.out]; exact hlt
      obtain ⟨r, hr⟩ : ∃ r, m[j]? = some r := ⟨_, List.getElem?_eq_getElem hjm⟩
      have hr2 : ((marksM k m).take j ++ m.drop j)[j]? = some r := by
        have hl2 : ((marksM k m).take j).length = j := by rw [List.length_take, marksM_length]; omega
        rw [List.getElem?_append_right (by omega), hl2, Nat.sub_self, List.getElem?_drop]; simpa using hr
      obtain ⟨g, c, u, e, hc, hu, hH, hback⟩ := HO.out.row hr2
      simp only [Value.slice.injEq] at e
      obtain ⟨rfl, e2, rfl⟩ := e
      clear e2
      have HR := Lib.hid hr; clear hr hr2
      have HB := Lib.hid hback; clear hback
      have HH := Lib.hid hH; clear hH
      have t1 := len_le_total HR.out
      have t2 := total_take_le m j
      obtain ⟨T, hT⟩ : ∃ T, T = total (m.take j) := ⟨_, rfl⟩
      have HT := Lib.hid hT
      rw [← hT] at t2 ⊢
      clear hT
      go_wp2_with (go_at_call 28; refine (markIntS B u r _ _ hu (by omega) (by omega) (by omega)).mono ?_; rintro e w1 ⟨rfl, ho1, hg1, hs1⟩; have HS1 := Lib.hid hs1; clear hs1)
      go_roundw
      case rel =>
        refine ⟨j + 1, by omega, by go_num, by rw [total_take_succ HR.out, ← HT.out]; go_num, Lib.hid ?_, Lib.hid (HG.out.trans ⟨hg1.os, hg1.tape, hg1.output, HS1.out, fun b hb hbb => hg1.block b hb fun e => ?_⟩)⟩
        · have := HB.out w1 _ hg1 ho1 (by decide)
          rw [HT.out, marksM_take_step HR.out] at this
          exact this
        · have := HH.out b e.symm
          have := (hu.lt b e.symm).1
          omega
      case measure => simp [intOf]; omega
    · have e : j = n := by omega
      subst e
      have h2 := HO.out
      rw [List.drop_of_length_le (by rw [HL.out]; exact Nat.le_refl _), List.take_of_length_le (by rw [marksM_length, HL.out]; exact Nat.le_refl _), List.append_nil] at h2
      have t3 := total_take_all HL.out hlt
      go_wp2
      go_ret
      exact ⟨ret_int (by rw [t3]), h2, HG.out⟩
set_option maxRecDepth 10000 in
set_option maxHeartbeats 400000 in
theorem heldIntSS (v : Value) (m : List (List Int)) (k : Int) (w : World) (h : Mat w v (marksM k m)) (hn : m.length + total m ≤ 4000000) (h0 : 0 ≤ k) (h1 : k ≤ 4000000) :
    Calls Tryd.prog 14 #[v, .int .i64 k] w fun e w' => e = .returned (.int .i64 (k + total m)) ∧ Drawn w w' := by
  obtain ⟨a, n, cap, rfl, HL, hn', HC⟩ := h.open
  have HL' : Hid (m.length = n) := Lib.hid (by have := HL.out; rwa [marksM_length] at this)
  rw [HL'.out] at hn
  go_enter Tryd.func14, Tryd.ntmps14
  go_wp2
  go_loopw [1, 5] (fun q i wr => ∃ j : Nat, j ≤ n ∧ i = .int .i64 j ∧ q = .int .i64 (k + (total (m.take j) : Nat)) ∧ Drawn w wr) (fun _ i _ => n - (intOf i).toNat)
  case atStart => exact ⟨0, Nat.zero_le _, rfl, by have : total (m.take 0) = 0 := rfl; rw [this]; go_num, Drawn.refl _⟩
  case round =>
    obtain ⟨j, hj, rfl, rfl, hd⟩ := hrel
    by_cases hlt : j < n
    · have hjm : j < m.length := by rw [HL'.out]; exact hlt
      obtain ⟨r, hr⟩ : ∃ r, m[j]? = some r := ⟨_, List.getElem?_eq_getElem hjm⟩
      obtain ⟨b, off, u, r', rfl, hc, HX, hu⟩ := HC.out j hlt
      have hr' : r' = marks (k + total (m.take j)) r.length := by
        have := HX.out; rw [marksM_get m k j r hr] at this; exact (Option.some.inj this).symm
      subst hr'
      have HR := Lib.hid hr; clear hr
      have t1 := len_le_total HR.out
      have t2 := total_take_le m j
      have hc1 := hd.cell hc
      obtain ⟨T, hT⟩ : ∃ T, T = total (m.take j) := ⟨_, rfl⟩
      have HT := Lib.hid hT
      rw [← hT] at t2 hu ⊢
      clear hT
      go_wp2_with (go_at_call 29; refine (heldIntS u r.length _ _ (hu.keep (hd.below _)) (by omega) (by omega) (by omega)).mono ?_; rintro e w1 ⟨rfl, hd1⟩)
      go_roundw
      case rel => exact ⟨j + 1, by omega, by go_num, by rw [total_take_succ HR.out, ← HT.out]; go_num, hd.trans hd1⟩
      case measure => simp [intOf]; omega
    · have t3 := total_take_all HL'.out hlt
      go_wp2
      go_ret
      exact ⟨ret_int (by rw [t3]), hd⟩

end Go.Proofs.YtloicjojhfpihaaDoor
