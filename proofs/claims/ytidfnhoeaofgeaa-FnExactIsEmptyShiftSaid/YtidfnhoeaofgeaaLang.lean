/- InLanguage and IsEmptyShift, the program's and the reference's. No statement is proved here. -/
import Derived.Test.YtidfnhoeaofgeaaLang4
namespace Go.Proofs.Ytidfnhoeaofgeaa
open Go.RowKit Go.Deep
set_option linter.unusedSimpArgs false
set_option maxRecDepth 10000 in
set_option maxHeartbeats 800000 in
theorem sl3In (k : Nat) (c : Int) (v : Value) (l : List ByteArray) (vs : Value) (x : ByteArray) (w : World) (h : Strs w v l) (hz : ∀ y ∈ l, y.size ≤ 1048576) (hS : Strs w vs (pairs k l)) (hx : x.size ≤ 1048576) :
    Calls Try.prog 71 #[.agg #[.int .i64 c, v], vs, .string x] w fun e w' => e = .returned (.bool (inL k l x)) ∧ Below w.heap.size w w' := by
  have HZ := Lib.hid hz; clear hz
  have hb0 := below_alloc w (.cells #[.int .i64 c, v] 30)
  have c1 : (w.alloc (.cells #[.int .i64 c, v] 30)).cell? ⟨w.heap.size, 1, none⟩ = some v := by simp
  have HPS : Hid (∀ u ∈ pairs k l, u.size = 2) := Lib.hid fun u hu => (pairs_in hu).1
  have hL0 := h.keep hb0
  have hS0 := hS.keep hb0
  obtain ⟨av, nv, cv, rfl, -⟩ := h.open
  obtain ⟨a, n, cap, rfl, HL, hn, HC⟩ := hS0.open
  by_cases hn0 : n = 0
  · have HI := Lib.hid (inL_none (x := x) (k := k) (f := l) (List.length_eq_zero_iff.1 (by rw [HL.out, hn0])))
    subst hn0
    go_enter Try.func71, Try.ntmps71
    go_wp2
    go_ret
    exact ⟨ret_bool HI.out.symm, hb0⟩
  have hne0 : ((n : Int) == 0) = false := beq_eq_false_iff_ne.2 (by omega)
  cases hA : avo l x
  · have HI := Lib.hid (inL_no (k := k) hA)
    have HA := Lib.hid hA
    clear hA
    go_enter Try.func71, Try.ntmps71
    go_wp2_with (go_at_call 57; refine (sAvoidsB _ l x _ _ hL0 HZ.out hx HA.out).mono ?_; rintro e w2 ⟨rfl, rfl⟩)
    go_ret
    exact ⟨ret_bool HI.out.symm, hb0⟩
  by_cases hs2 : (x.size : Int) < 2
  · have HI := Lib.hid (inL_small (k := k) (f := l) (x := x) (by omega))
    have HA := Lib.hid hA
    clear hA
    go_enter Try.func71, Try.ntmps71
    go_wp2_with (go_at_call 57; refine (sAvoidsB _ l x _ _ hL0 HZ.out hx HA.out).mono ?_; rintro e w2 ⟨rfl, rfl⟩)
    go_loop [7] (fun i => ∃ j : Nat, j ≤ n ∧ i = .int .i64 j ∧ Hid (((pairs k l).take j).any (fun u => occ u x) = false)) (fun i => n - (intOf i).toNat)
    case atStart => exact ⟨0, Nat.zero_le _, rfl, Lib.hid (by simp)⟩
    case round =>
      obtain ⟨j, hj, rfl, HT⟩ := hrel
      by_cases hlt : j < n
      · obtain ⟨b0, off, u, rfl, hcu, HX⟩ := HC.out j hlt
        have hus : u.size ≤ 1048576 := by rw [HPS.out u (List.mem_of_getElem? HX.out)]; omega
        cases ho : occ u x
        · have HO := Lib.hid ho
          have HN := Lib.hid (anyT_no (p := fun u => occ u x) HX.out HT.out ho); clear ho
          go_wp2_with (go_at_call 46; refine (sOccursIn u x _ hus hx).mono ?_; rintro e w' ⟨rfl, rfl⟩; rw [HO.out])
          go_round
          case rel => exact ⟨j + 1, by omega, by go_num, HN⟩
          case measure => simp [intOf]; omega
        · have HO := Lib.hid ho
          have HN := Lib.hid (anyT_yes (p := fun u => occ u x) HX.out ho); clear ho
          go_wp2_with (go_at_call 46; refine (sOccursIn u x _ hus hx).mono ?_; rintro e w' ⟨rfl, rfl⟩; rw [HO.out])
          go_ret
          exact ⟨ret_bool (by rw [HI.out, HN.out]), hb0⟩
      · have HN := Lib.hid (anyT_end HL.out hlt HT.out)
        go_wp2
        go_ret
        exact ⟨ret_bool (by rw [HI.out, HN.out]), hb0⟩
  · have hs2' : 2 ≤ x.size := by omega
    have HI := Lib.hid (inL_big (k := k) hs2' hA)
    have HA := Lib.hid hA
    clear hA
    have hw2 : IntKind.i64.wrap ((x.size : Int) - 2) = ((x.size - 2 : Nat) : Int) := by rw [IntKind.wrap_i64]; omega
    have hle : x.size - 2 ≤ x.size := by omega
    have hle2 : ((x.size - 2 : Nat) : Int) ≤ (x.size : Int) := by omega
    have hle3 : (0 : Int) ≤ ((x.size - 2 : Nat) : Int) := by omega
    obtain ⟨X1, hX1⟩ : ∃ X1, x.extract 0 2 = X1 := ⟨_, rfl⟩
    obtain ⟨X2, hX2⟩ : ∃ X2, x.extract (x.size - 2) x.size = X2 := ⟨_, rfl⟩
    rw [hX1, hX2] at HI
    obtain ⟨f, hf⟩ : ∃ f, hasText (pairs k l) X1 = f := ⟨_, rfl⟩
    obtain ⟨g, hg⟩ : ∃ g, hasText (pairs k l) X2 = g := ⟨_, rfl⟩
    have HF := Lib.hid hf
    have HG := Lib.hid hg
    rw [hf, hg] at HI
    clear hf hg HC
    cases f
    · go_enter Try.func71, Try.ntmps71
      go_wp2_with (first | (go_at_call 57; refine (sAvoidsB _ l x _ _ hL0 HZ.out hx HA.out).mono ?_; rintro e w2 ⟨rfl, rfl⟩) | (go_at_call 95; refine (sHasText _ _ X1 _ _ hS0 HF.out).mono ?_; rintro e w2 ⟨rfl, rfl⟩))
      go_ret
      exact ⟨ret_bool (by rw [HI.out]; rfl), hb0⟩
    · go_enter Try.func71, Try.ntmps71
      go_wp2_with fail
      refine (sAvoidsB _ l x _ _ hL0 HZ.out hx HA.out).mono ?_
      rintro e w2 ⟨rfl, rfl⟩
      go_wp2_with fail
      refine (sHasText _ _ X1 _ _ hS0 HF.out).mono ?_
      rintro e w2 ⟨rfl, rfl⟩
      go_wp2_with fail
      refine (sHasText _ _ X2 _ _ hS0 HG.out).mono ?_
      rintro e w2 ⟨rfl, rfl⟩
      go_wp2
      go_ret
      exact ⟨ret_bool (by rw [HI.out]; cases g <;> rfl), hb0⟩
theorem inLang_1 {k : Int} {l : List ByteArray} {s : ByteArray} (h : isShift k l = false) : inLang k l s = false := by unfold inLang; rw [h]; rfl
theorem inLang_2 {k : Int} {l : List ByteArray} {s : ByteArray} (h : isWord k s = false) : inLang k l s = false := by unfold inLang; rw [h, Bool.false_and, Bool.and_false]
theorem inLang_3 {k : Nat} {l : List ByteArray} {s : ByteArray} (h : isShift k l = true) (h2 : isWord k s = true) : inLang k l s = inL k l s := by unfold inLang; rw [h, h2, Int.toNat_natCast]; rfl
theorem isEmptyS_1 {k : Int} {l : List ByteArray} (h : isShift k l = false) : isEmptyS k l = false := by unfold isEmptyS; rw [h]; rfl
theorem isEmptyS_2 {k n : Nat} {l : List ByteArray} (h : isShift k l = true) (hn : (pairs k l).length = n) : isEmptyS k l = decide (n = 0) := by unfold isEmptyS; rw [h, Int.toNat_natCast, hn]; rfl
set_option maxRecDepth 10000 in
set_option maxHeartbeats 800000 in
theorem sInLanguage (k : Int) (v : Value) (l : List ByteArray) (s : ByteArray) (w : World) (h : Strs w v l) (hz : ∀ x ∈ l, x.size ≤ 1048576) (hs : s.size ≤ 1048576) :
    Calls Try.prog 29 #[.agg #[.int .i64 k, v], .string s] w fun e w' => e = .returned (.bool (inLang k l s)) ∧ Below w.heap.size w w' := by
  have hb := below_alloc w (.cells #[.int .i64 k, v] 30)
  have hbd : Below w.heap.size w (w.alloc (.cells #[.int .i64 k, v] 30)).drew := hb.drew
  have c0d : (w.alloc (.cells #[.int .i64 k, v] 30)).drew.cell? ⟨w.heap.size, 0, none⟩ = some (.int .i64 k) := by simp
  have c1d : (w.alloc (.cells #[.int .i64 k, v] 30)).drew.cell? ⟨w.heap.size, 1, none⟩ = some v := by simp
  obtain ⟨a, n, cap, rfl, -⟩ := h.open
  cases hS : isShift k l
  · have HO := Lib.hid (inLang_1 (s := s) hS)
    have HS := Lib.hid hS; clear hS
    go_enter Try.func29, Try.ntmps29
    go_wp2
    refine wp_region_held_drew (S := (fun w' => w'.cell? ⟨w.heap.size, 0, none⟩ = some (.int .i64 k) ∧ w'.cell? ⟨w.heap.size, 1, none⟩ = some (.slice a n cap))) (by kernel_rfl) ⟨c0d, c1d⟩ (fun hHeld => ?_)
    refine wpAnyH_take (i := 0) (v := .agg #[.int .i64 k, .slice a n cap]) rfl (by kernel_rfl) (by kernel_rfl) (by kernel_rfl) (fun _ _ _ h => h) (Or.inl ⟨by rfl, ?_⟩) hHeld ?_
    · (intro w hSw; (try dsimp only at hSw); go_simp)
    (try simp only [List.getElem_toArray, List.getElem_cons_zero, List.getElem_cons_succ, Act.put, List.setIfInBounds_toArray, List.set_cons_zero, List.set_cons_succ])
    refine wpAnyH_ready (rs := [1]) (by kernel_rfl) (by simp) ?_
    refine AllReadyH.cons rfl (fun Kx hKx => ?_) AllReadyH.nil
    go_simp
    (go_at_call 56; refine (sIsShift k _ l _ (h.keep hbd) hz).mono ?_; rintro e w1 ⟨rfl, hb1⟩; rw [HS.out]; have d0 := cell_keep hb1 c0d; have d1 := cell_keep hb1 c1d; have b1 : Below w.heap.size w w1 := hbd.trans (hb1.mono hbd.size))
    go_wp2_with fail
    refine hKx.out _ _ ⟨d0, d1⟩ (fun hHeld2 => ?_)
    (try simp only [List.getElem_toArray, List.getElem_cons_zero, List.getElem_cons_succ, Act.put, List.setIfInBounds_toArray, List.set_cons_zero, List.set_cons_succ])
    refine wpAnyH_take (i := 2) (v := .bool false) rfl (by kernel_rfl) (by kernel_rfl) (by kernel_rfl) (fun _ _ _ h => h) (Or.inl ⟨by rfl, ?_⟩) hHeld2 ?_
    · (intro w hSw; (try dsimp only at hSw); go_simp)
    (try simp only [List.getElem_toArray, List.getElem_cons_zero, List.getElem_cons_succ, Act.put, List.setIfInBounds_toArray, List.set_cons_zero, List.set_cons_succ])
    refine wpAnyH_take (i := 3) (v := undef) rfl (by kernel_rfl) (by kernel_rfl) (by kernel_rfl) (fun _ _ _ h => h) (Or.inr ⟨by rfl, rfl⟩) hHeld2 ?_
    (try simp only [List.getElem_toArray, List.getElem_cons_zero, List.getElem_cons_succ, Act.put, List.setIfInBounds_toArray, List.set_cons_zero, List.set_cons_succ])
    refine wpAnyH_take (i := 4) (v := undef) rfl (by kernel_rfl) (by kernel_rfl) (by kernel_rfl) (fun _ _ _ h => h) (Or.inr ⟨by rfl, rfl⟩) hHeld2 ?_
    (try simp only [List.getElem_toArray, List.getElem_cons_zero, List.getElem_cons_succ, Act.put, List.setIfInBounds_toArray, List.set_cons_zero, List.set_cons_succ])
    refine wpAnyH_take (i := 5) (v := undef) rfl (by kernel_rfl) (by kernel_rfl) (by kernel_rfl) (fun _ _ _ h => h) (Or.inr ⟨by rfl, rfl⟩) hHeld2 ?_
    (try simp only [List.getElem_toArray, List.getElem_cons_zero, List.getElem_cons_succ, Act.put, List.setIfInBounds_toArray, List.set_cons_zero, List.set_cons_succ])
    refine wpAnyH_take (i := 6) (v := undef) rfl (by kernel_rfl) (by kernel_rfl) (by kernel_rfl) (fun _ _ _ h => h) (Or.inr ⟨by rfl, rfl⟩) hHeld2 ?_
    (try simp only [List.getElem_toArray, List.getElem_cons_zero, List.getElem_cons_succ, Act.put, List.setIfInBounds_toArray, List.set_cons_zero, List.set_cons_succ])
    refine wpAnyH_take (i := 7) (v := .bool false) rfl (by kernel_rfl) (by kernel_rfl) (by kernel_rfl) (fun _ _ _ h => h) (Or.inl ⟨by rfl, ?_⟩) hHeld2 ?_
    · (intro w hSw; (try dsimp only at hSw); go_simp)
    (try simp only [List.getElem_toArray, List.getElem_cons_zero, List.getElem_cons_succ, Act.put, List.setIfInBounds_toArray, List.set_cons_zero, List.set_cons_succ])
    refine wpAnyH_take (i := 8) (v := .bool false) rfl (by kernel_rfl) (by kernel_rfl) (by kernel_rfl) (fun _ _ _ h => h) (Or.inl ⟨by rfl, ?_⟩) hHeld2 ?_
    · (intro w hSw; (try dsimp only at hSw); go_simp)
    (try simp only [List.getElem_toArray, List.getElem_cons_zero, List.getElem_cons_succ, Act.put, List.setIfInBounds_toArray, List.set_cons_zero, List.set_cons_succ])
    refine wpAnyH_take (i := 9) (v := undef) rfl (by kernel_rfl) (by kernel_rfl) (by kernel_rfl) (fun _ _ _ h => h) (Or.inr ⟨by rfl, rfl⟩) hHeld2 ?_
    (try simp only [List.getElem_toArray, List.getElem_cons_zero, List.getElem_cons_succ, Act.put, List.setIfInBounds_toArray, List.set_cons_zero, List.set_cons_succ])
    refine wpAnyH_take (i := 10) (v := undef) rfl (by kernel_rfl) (by kernel_rfl) (by kernel_rfl) (fun _ _ _ h => h) (Or.inr ⟨by rfl, rfl⟩) hHeld2 ?_
    (try simp only [List.getElem_toArray, List.getElem_cons_zero, List.getElem_cons_succ, Act.put, List.setIfInBounds_toArray, List.set_cons_zero, List.set_cons_succ])
    refine wpAnyH_take (i := 11) (v := undef) rfl (by kernel_rfl) (by kernel_rfl) (by kernel_rfl) (fun _ _ _ h => h) (Or.inr ⟨by rfl, rfl⟩) hHeld2 ?_
    (try simp only [List.getElem_toArray, List.getElem_cons_zero, List.getElem_cons_succ, Act.put, List.setIfInBounds_toArray, List.set_cons_zero, List.set_cons_succ])
    refine wpAnyH_take (i := 12) (v := undef) rfl (by kernel_rfl) (by kernel_rfl) (by kernel_rfl) (fun _ _ _ h => h) (Or.inr ⟨by rfl, rfl⟩) hHeld2 ?_
    (try simp only [List.getElem_toArray, List.getElem_cons_zero, List.getElem_cons_succ, Act.put, List.setIfInBounds_toArray, List.set_cons_zero, List.set_cons_succ])
    refine wpAnyH_take (i := 13) (v := undef) rfl (by kernel_rfl) (by kernel_rfl) (by kernel_rfl) (fun _ _ _ h => h) (Or.inr ⟨by rfl, rfl⟩) hHeld2 ?_
    (try simp only [List.getElem_toArray, List.getElem_cons_zero, List.getElem_cons_succ, Act.put, List.setIfInBounds_toArray, List.set_cons_zero, List.set_cons_succ])
    refine wpAnyH_take (i := 14) (v := .bool false) rfl (by kernel_rfl) (by kernel_rfl) (by kernel_rfl) (fun _ _ _ h => h) (Or.inl ⟨by rfl, ?_⟩) hHeld2 ?_
    · (intro w hSw; (try dsimp only at hSw); go_simp)
    (try simp only [List.getElem_toArray, List.getElem_cons_zero, List.getElem_cons_succ, Act.put, List.setIfInBounds_toArray, List.set_cons_zero, List.set_cons_succ])
    refine wpAnyH_take (i := 15) (v := .bool false) rfl (by kernel_rfl) (by kernel_rfl) (by kernel_rfl) (fun _ _ _ h => h) (Or.inl ⟨by rfl, ?_⟩) hHeld2 ?_
    · (intro w hSw; (try dsimp only at hSw); go_simp)
    (try simp only [List.getElem_toArray, List.getElem_cons_zero, List.getElem_cons_succ, Act.put, List.setIfInBounds_toArray, List.set_cons_zero, List.set_cons_succ])
    refine wpAnyH_done (by kernel_rfl) ?_ _
    go_wp2
    go_ret
    exact ⟨ret_bool HO.out.symm, b1⟩
  have hk := isShift_letters hS
  obtain ⟨K, rfl⟩ : ∃ K : Nat, k = K := ⟨k.toNat, by omega⟩
  cases hW : isWord K s
  · have HO := Lib.hid (inLang_2 (l := l) hW)
    have HS := Lib.hid hS
    have HW := Lib.hid hW; clear hS hW
    go_enter Try.func29, Try.ntmps29
    go_wp2
    refine wp_region_held_drew (S := (fun w' => w'.cell? ⟨w.heap.size, 0, none⟩ = some (.int .i64 K) ∧ w'.cell? ⟨w.heap.size, 1, none⟩ = some (.slice a n cap))) (by kernel_rfl) ⟨c0d, c1d⟩ (fun hHeld => ?_)
    refine wpAnyH_take (i := 0) (v := .agg #[.int .i64 K, .slice a n cap]) rfl (by kernel_rfl) (by kernel_rfl) (by kernel_rfl) (fun _ _ _ h => h) (Or.inl ⟨by rfl, ?_⟩) hHeld ?_
    · (intro w hSw; (try dsimp only at hSw); go_simp)
    (try simp only [List.getElem_toArray, List.getElem_cons_zero, List.getElem_cons_succ, Act.put, List.setIfInBounds_toArray, List.set_cons_zero, List.set_cons_succ])
    refine wpAnyH_ready (rs := [1]) (by kernel_rfl) (by simp) ?_
    refine AllReadyH.cons rfl (fun Kx hKx => ?_) AllReadyH.nil
    go_simp
    (go_at_call 56; refine (sIsShift (K : Int) _ l _ (h.keep hbd) hz).mono ?_; rintro e w1 ⟨rfl, hb1⟩; rw [HS.out]; have d0 := cell_keep hb1 c0d; have d1 := cell_keep hb1 c1d; have b1 : Below w.heap.size w w1 := hbd.trans (hb1.mono hbd.size))
    go_wp2_with fail
    refine hKx.out _ _ ⟨d0, d1⟩ (fun hHeld2 => ?_)
    (try simp only [List.getElem_toArray, List.getElem_cons_zero, List.getElem_cons_succ, Act.put, List.setIfInBounds_toArray, List.set_cons_zero, List.set_cons_succ])
    refine wpAnyH_take (i := 2) (v := .bool true) rfl (by kernel_rfl) (by kernel_rfl) (by kernel_rfl) (fun _ _ _ h => h) (Or.inl ⟨by rfl, ?_⟩) hHeld2 ?_
    · (intro w hSw; (try dsimp only at hSw); go_simp)
    (try simp only [List.getElem_toArray, List.getElem_cons_zero, List.getElem_cons_succ, Act.put, List.setIfInBounds_toArray, List.set_cons_zero, List.set_cons_succ])
    refine wpAnyH_take (i := 3) (v := .pointer (some ⟨w.heap.size, 0, none⟩)) rfl (by kernel_rfl) (by kernel_rfl) (by kernel_rfl) (fun _ _ _ h => h) (Or.inl ⟨by rfl, ?_⟩) hHeld2 ?_
    · (intro w hSw; (try dsimp only at hSw); go_simp)
    (try simp only [List.getElem_toArray, List.getElem_cons_zero, List.getElem_cons_succ, Act.put, List.setIfInBounds_toArray, List.set_cons_zero, List.set_cons_succ])
    refine wpAnyH_take (i := 4) (v := .int .i64 K) rfl (by kernel_rfl) (by kernel_rfl) (by kernel_rfl) (fun _ _ _ h => h) (Or.inl ⟨by rfl, ?_⟩) hHeld2 ?_
    · (intro w hSw; (try dsimp only at hSw); go_simp)
    (try simp only [List.getElem_toArray, List.getElem_cons_zero, List.getElem_cons_succ, Act.put, List.setIfInBounds_toArray, List.set_cons_zero, List.set_cons_succ])
    refine wpAnyH_take (i := 5) (v := .string s) rfl (by kernel_rfl) (by kernel_rfl) (by kernel_rfl) (fun _ _ _ h => h) (Or.inl ⟨by rfl, ?_⟩) hHeld2 ?_
    · (intro w hSw; (try dsimp only at hSw); go_simp)
    (try simp only [List.getElem_toArray, List.getElem_cons_zero, List.getElem_cons_succ, Act.put, List.setIfInBounds_toArray, List.set_cons_zero, List.set_cons_succ])
    refine wpAnyH_ready (rs := [6]) (by kernel_rfl) (by simp) ?_
    refine AllReadyH.cons rfl (fun Kx hKx => ?_) AllReadyH.nil
    go_simp
    (go_at_call 48; refine (sIsWord _ _ _ hs).mono ?_; rintro e w' ⟨rfl, rfl⟩; rw [HW.out])
    go_wp2_with fail
    refine hKx.out _ _ ⟨d0, d1⟩ (fun hHeld3 => ?_)
    (try simp only [List.getElem_toArray, List.getElem_cons_zero, List.getElem_cons_succ, Act.put, List.setIfInBounds_toArray, List.set_cons_zero, List.set_cons_succ])
    refine wpAnyH_take (i := 7) (v := .bool false) rfl (by kernel_rfl) (by kernel_rfl) (by kernel_rfl) (fun _ _ _ h => h) (Or.inl ⟨by rfl, ?_⟩) hHeld3 ?_
    · (intro w hSw; (try dsimp only at hSw); go_simp)
    (try simp only [List.getElem_toArray, List.getElem_cons_zero, List.getElem_cons_succ, Act.put, List.setIfInBounds_toArray, List.set_cons_zero, List.set_cons_succ])
    refine wpAnyH_take (i := 8) (v := .bool false) rfl (by kernel_rfl) (by kernel_rfl) (by kernel_rfl) (fun _ _ _ h => h) (Or.inl ⟨by rfl, ?_⟩) hHeld3 ?_
    · (intro w hSw; (try dsimp only at hSw); go_simp)
    (try simp only [List.getElem_toArray, List.getElem_cons_zero, List.getElem_cons_succ, Act.put, List.setIfInBounds_toArray, List.set_cons_zero, List.set_cons_succ])
    refine wpAnyH_take (i := 9) (v := undef) rfl (by kernel_rfl) (by kernel_rfl) (by kernel_rfl) (fun _ _ _ h => h) (Or.inr ⟨by rfl, rfl⟩) hHeld3 ?_
    (try simp only [List.getElem_toArray, List.getElem_cons_zero, List.getElem_cons_succ, Act.put, List.setIfInBounds_toArray, List.set_cons_zero, List.set_cons_succ])
    refine wpAnyH_take (i := 10) (v := undef) rfl (by kernel_rfl) (by kernel_rfl) (by kernel_rfl) (fun _ _ _ h => h) (Or.inr ⟨by rfl, rfl⟩) hHeld3 ?_
    (try simp only [List.getElem_toArray, List.getElem_cons_zero, List.getElem_cons_succ, Act.put, List.setIfInBounds_toArray, List.set_cons_zero, List.set_cons_succ])
    refine wpAnyH_take (i := 11) (v := undef) rfl (by kernel_rfl) (by kernel_rfl) (by kernel_rfl) (fun _ _ _ h => h) (Or.inr ⟨by rfl, rfl⟩) hHeld3 ?_
    (try simp only [List.getElem_toArray, List.getElem_cons_zero, List.getElem_cons_succ, Act.put, List.setIfInBounds_toArray, List.set_cons_zero, List.set_cons_succ])
    refine wpAnyH_take (i := 12) (v := undef) rfl (by kernel_rfl) (by kernel_rfl) (by kernel_rfl) (fun _ _ _ h => h) (Or.inr ⟨by rfl, rfl⟩) hHeld3 ?_
    (try simp only [List.getElem_toArray, List.getElem_cons_zero, List.getElem_cons_succ, Act.put, List.setIfInBounds_toArray, List.set_cons_zero, List.set_cons_succ])
    refine wpAnyH_take (i := 13) (v := undef) rfl (by kernel_rfl) (by kernel_rfl) (by kernel_rfl) (fun _ _ _ h => h) (Or.inr ⟨by rfl, rfl⟩) hHeld3 ?_
    (try simp only [List.getElem_toArray, List.getElem_cons_zero, List.getElem_cons_succ, Act.put, List.setIfInBounds_toArray, List.set_cons_zero, List.set_cons_succ])
    refine wpAnyH_take (i := 14) (v := .bool false) rfl (by kernel_rfl) (by kernel_rfl) (by kernel_rfl) (fun _ _ _ h => h) (Or.inl ⟨by rfl, ?_⟩) hHeld3 ?_
    · (intro w hSw; (try dsimp only at hSw); go_simp)
    (try simp only [List.getElem_toArray, List.getElem_cons_zero, List.getElem_cons_succ, Act.put, List.setIfInBounds_toArray, List.set_cons_zero, List.set_cons_succ])
    refine wpAnyH_take (i := 15) (v := .bool false) rfl (by kernel_rfl) (by kernel_rfl) (by kernel_rfl) (fun _ _ _ h => h) (Or.inl ⟨by rfl, ?_⟩) hHeld3 ?_
    · (intro w hSw; (try dsimp only at hSw); go_simp)
    (try simp only [List.getElem_toArray, List.getElem_cons_zero, List.getElem_cons_succ, Act.put, List.setIfInBounds_toArray, List.set_cons_zero, List.set_cons_succ])
    refine wpAnyH_done (by kernel_rfl) ?_ _
    go_wp2
    go_ret
    exact ⟨ret_bool HO.out.symm, b1⟩
  · have HO0 := Lib.hid (inLang_3 hS hW)
    obtain ⟨r, hr⟩ : ∃ r, inL K l s = r := ⟨_, rfl⟩
    have HO := Lib.hid hr
    rw [hr] at HO0
    clear hr
    have HS := Lib.hid hS
    have HW := Lib.hid hW; clear hS hW
    go_enter Try.func29, Try.ntmps29
    go_wp2
    refine wp_region_held_drew (S := (fun w' => w'.cell? ⟨w.heap.size, 0, none⟩ = some (.int .i64 K) ∧ w'.cell? ⟨w.heap.size, 1, none⟩ = some (.slice a n cap))) (by kernel_rfl) ⟨c0d, c1d⟩ (fun hHeld => ?_)
    refine wpAnyH_take (i := 0) (v := .agg #[.int .i64 K, .slice a n cap]) rfl (by kernel_rfl) (by kernel_rfl) (by kernel_rfl) (fun _ _ _ h => h) (Or.inl ⟨by rfl, ?_⟩) hHeld ?_
    · (intro w hSw; (try dsimp only at hSw); go_simp)
    (try simp only [List.getElem_toArray, List.getElem_cons_zero, List.getElem_cons_succ, Act.put, List.setIfInBounds_toArray, List.set_cons_zero, List.set_cons_succ])
    refine wpAnyH_ready (rs := [1]) (by kernel_rfl) (by simp) ?_
    refine AllReadyH.cons rfl (fun Kx hKx => ?_) AllReadyH.nil
    go_simp
    (go_at_call 56; refine (sIsShift (K : Int) _ l _ (h.keep hbd) hz).mono ?_; rintro e w1 ⟨rfl, hb1⟩; rw [HS.out]; have d0 := cell_keep hb1 c0d; have d1 := cell_keep hb1 c1d; have b1 : Below w.heap.size w w1 := hbd.trans (hb1.mono hbd.size))
    go_wp2_with fail
    refine hKx.out _ _ ⟨d0, d1⟩ (fun hHeld2 => ?_)
    (try simp only [List.getElem_toArray, List.getElem_cons_zero, List.getElem_cons_succ, Act.put, List.setIfInBounds_toArray, List.set_cons_zero, List.set_cons_succ])
    refine wpAnyH_take (i := 2) (v := .bool true) rfl (by kernel_rfl) (by kernel_rfl) (by kernel_rfl) (fun _ _ _ h => h) (Or.inl ⟨by rfl, ?_⟩) hHeld2 ?_
    · (intro w hSw; (try dsimp only at hSw); go_simp)
    (try simp only [List.getElem_toArray, List.getElem_cons_zero, List.getElem_cons_succ, Act.put, List.setIfInBounds_toArray, List.set_cons_zero, List.set_cons_succ])
    refine wpAnyH_take (i := 3) (v := .pointer (some ⟨w.heap.size, 0, none⟩)) rfl (by kernel_rfl) (by kernel_rfl) (by kernel_rfl) (fun _ _ _ h => h) (Or.inl ⟨by rfl, ?_⟩) hHeld2 ?_
    · (intro w hSw; (try dsimp only at hSw); go_simp)
    (try simp only [List.getElem_toArray, List.getElem_cons_zero, List.getElem_cons_succ, Act.put, List.setIfInBounds_toArray, List.set_cons_zero, List.set_cons_succ])
    refine wpAnyH_take (i := 4) (v := .int .i64 K) rfl (by kernel_rfl) (by kernel_rfl) (by kernel_rfl) (fun _ _ _ h => h) (Or.inl ⟨by rfl, ?_⟩) hHeld2 ?_
    · (intro w hSw; (try dsimp only at hSw); go_simp)
    (try simp only [List.getElem_toArray, List.getElem_cons_zero, List.getElem_cons_succ, Act.put, List.setIfInBounds_toArray, List.set_cons_zero, List.set_cons_succ])
    refine wpAnyH_take (i := 5) (v := .string s) rfl (by kernel_rfl) (by kernel_rfl) (by kernel_rfl) (fun _ _ _ h => h) (Or.inl ⟨by rfl, ?_⟩) hHeld2 ?_
    · (intro w hSw; (try dsimp only at hSw); go_simp)
    (try simp only [List.getElem_toArray, List.getElem_cons_zero, List.getElem_cons_succ, Act.put, List.setIfInBounds_toArray, List.set_cons_zero, List.set_cons_succ])
    refine wpAnyH_ready (rs := [6]) (by kernel_rfl) (by simp) ?_
    refine AllReadyH.cons rfl (fun Kx hKx => ?_) AllReadyH.nil
    go_simp
    (go_at_call 48; refine (sIsWord _ _ _ hs).mono ?_; rintro e w' ⟨rfl, rfl⟩; rw [HW.out])
    go_wp2_with fail
    refine hKx.out _ _ ⟨d0, d1⟩ (fun hHeld3 => ?_)
    (try simp only [List.getElem_toArray, List.getElem_cons_zero, List.getElem_cons_succ, Act.put, List.setIfInBounds_toArray, List.set_cons_zero, List.set_cons_succ])
    refine wpAnyH_take (i := 7) (v := .bool true) rfl (by kernel_rfl) (by kernel_rfl) (by kernel_rfl) (fun _ _ _ h => h) (Or.inl ⟨by rfl, ?_⟩) hHeld3 ?_
    · (intro w hSw; (try dsimp only at hSw); go_simp)
    (try simp only [List.getElem_toArray, List.getElem_cons_zero, List.getElem_cons_succ, Act.put, List.setIfInBounds_toArray, List.set_cons_zero, List.set_cons_succ])
    refine wpAnyH_take (i := 8) (v := .bool true) rfl (by kernel_rfl) (by kernel_rfl) (by kernel_rfl) (fun _ _ _ h => h) (Or.inl ⟨by rfl, ?_⟩) hHeld3 ?_
    · (intro w hSw; (try dsimp only at hSw); go_simp)
    (try simp only [List.getElem_toArray, List.getElem_cons_zero, List.getElem_cons_succ, Act.put, List.setIfInBounds_toArray, List.set_cons_zero, List.set_cons_succ])
    refine wpAnyH_take (i := 9) (v := .agg #[.int .i64 K, .slice a n cap]) rfl (by kernel_rfl) (by kernel_rfl) (by kernel_rfl) (fun _ _ _ h => h) (Or.inl ⟨by rfl, ?_⟩) hHeld3 ?_
    · (intro w hSw; (try dsimp only at hSw); go_simp)
    (try simp only [List.getElem_toArray, List.getElem_cons_zero, List.getElem_cons_succ, Act.put, List.setIfInBounds_toArray, List.set_cons_zero, List.set_cons_succ])
    refine wpAnyH_take (i := 10) (v := .agg #[.int .i64 K, .slice a n cap]) rfl (by kernel_rfl) (by kernel_rfl) (by kernel_rfl) (fun _ _ _ h => h) (Or.inl ⟨by rfl, ?_⟩) hHeld3 ?_
    · (intro w hSw; (try dsimp only at hSw); go_simp)
    (try simp only [List.getElem_toArray, List.getElem_cons_zero, List.getElem_cons_succ, Act.put, List.setIfInBounds_toArray, List.set_cons_zero, List.set_cons_succ])
    refine wpAnyH_take (i := 12) (v := .string s) rfl (by kernel_rfl) (by kernel_rfl) (by kernel_rfl) (fun _ _ _ h => h) (Or.inl ⟨by rfl, ?_⟩) hHeld3 ?_
    · (intro w hSw; (try dsimp only at hSw); go_simp)
    (try simp only [List.getElem_toArray, List.getElem_cons_zero, List.getElem_cons_succ, Act.put, List.setIfInBounds_toArray, List.set_cons_zero, List.set_cons_succ])
    refine wpAnyH_ready (rs := [11]) (by kernel_rfl) (by simp) ?_
    refine AllReadyH.cons rfl (fun Kx hKx => ?_) AllReadyH.nil
    go_simp
    (go_at_call 69; refine (sl3Pairs K _ l _ (h.keep b1) hz (by omega) (by omega)).mono ?_; rintro e w2 ⟨v2, rfl, ho2, hb2⟩; have b2 : Below w.heap.size w w2 := b1.trans (hb2.mono b1.size); have e0 := cell_keep hb2 d0; have e1 := cell_keep hb2 d1)
    go_wp2_with fail
    refine hKx.out _ _ ⟨e0, e1⟩ (fun hHeld4 => ?_)
    (try simp only [List.getElem_toArray, List.getElem_cons_zero, List.getElem_cons_succ, Act.put, List.setIfInBounds_toArray, List.set_cons_zero, List.set_cons_succ])
    refine wpAnyH_ready (rs := [13]) (by kernel_rfl) (by simp) ?_
    refine AllReadyH.cons rfl (fun Kx hKx => ?_) AllReadyH.nil
    go_simp
    (go_at_call 71; refine (sl3In K (K : Int) _ l _ s _ (h.keep b2) hz ho2.strs hs).mono ?_; rintro e w3 ⟨rfl, hb3⟩; rw [HO.out]; have f0 := cell_keep hb3 e0; have f1 := cell_keep hb3 e1; have b3 : Below w.heap.size w w3 := b2.trans (hb3.mono b2.size))
    go_wp2_with fail
    refine hKx.out _ _ ⟨f0, f1⟩ (fun hHeld5 => ?_)
    (try simp only [List.getElem_toArray, List.getElem_cons_zero, List.getElem_cons_succ, Act.put, List.setIfInBounds_toArray, List.set_cons_zero, List.set_cons_succ])
    refine wpAnyH_take (i := 14) (v := .bool r) rfl (by kernel_rfl) (by kernel_rfl) (by kernel_rfl) (fun _ _ _ h => h) (Or.inl ⟨by rfl, ?_⟩) hHeld5 ?_
    · (intro w hSw; (try dsimp only at hSw); go_simp)
    (try simp only [List.getElem_toArray, List.getElem_cons_zero, List.getElem_cons_succ, Act.put, List.setIfInBounds_toArray, List.set_cons_zero, List.set_cons_succ])
    refine wpAnyH_take (i := 15) (v := .bool r) rfl (by kernel_rfl) (by kernel_rfl) (by kernel_rfl) (fun _ _ _ h => h) (Or.inl ⟨by rfl, ?_⟩) hHeld5 ?_
    · (intro w hSw; (try dsimp only at hSw); go_simp)
    (try simp only [List.getElem_toArray, List.getElem_cons_zero, List.getElem_cons_succ, Act.put, List.setIfInBounds_toArray, List.set_cons_zero, List.set_cons_succ])
    refine wpAnyH_done (by kernel_rfl) ?_ _
    go_wp2
    go_ret
    exact ⟨ret_bool HO0.out.symm, b3⟩
set_option maxRecDepth 10000 in
set_option maxHeartbeats 400000 in
theorem sIsEmptyShift (k : Int) (v : Value) (l : List ByteArray) (w : World) (h : Strs w v l) (hz : ∀ x ∈ l, x.size ≤ 1048576) :
    Calls Try.prog 27 #[.agg #[.int .i64 k, v]] w fun e w' => e = .returned (.bool (isEmptyS k l)) ∧ Below w.heap.size w w' := by
  have hb := below_alloc w (.cells #[.int .i64 k, v] 30)
  have c0 : (w.alloc (.cells #[.int .i64 k, v] 30)).cell? ⟨w.heap.size, 0, none⟩ = some (.int .i64 k) := by simp
  have c1 : (w.alloc (.cells #[.int .i64 k, v] 30)).cell? ⟨w.heap.size, 1, none⟩ = some v := by simp
  obtain ⟨a, n, cap, rfl, -⟩ := h.open
  go_enter Try.func27, Try.ntmps27
  go_wp2_with fail
  refine (sIsShift k _ l _ (h.keep hb) hz).mono ?_
  rintro e w1 ⟨rfl, hb1⟩
  have d0 := cell_keep hb1 c0
  have d1 := cell_keep hb1 c1
  have b1 := hb.trans (hb1.mono (by simp))
  clear c0 c1 hb hb1
  cases hS : isShift k l
  · have HO := Lib.hid (isEmptyS_1 hS); clear hS
    go_wp2
    go_ret
    exact ⟨ret_bool HO.out.symm, b1⟩
  have hk := isShift_letters hS
  obtain ⟨K, rfl⟩ : ∃ K : Nat, k = K := ⟨k.toNat, by omega⟩
  obtain ⟨m, hm9⟩ : ∃ m, (pairs K l).length = m := ⟨_, rfl⟩
  have HO := Lib.hid (isEmptyS_2 hS hm9)
  have HM := Lib.hid hm9; clear hS hm9
  go_wp2_with fail
  refine (sl3Pairs K _ l _ (h.keep b1) hz (by omega) (by omega)).mono ?_
  rintro e w2 ⟨v2, rfl, ho2, hb2⟩
  have b2 := b1.trans (hb2.mono b1.size)
  obtain ⟨a2, c2, rfl⟩ := Own.form ho2 (show (strs (pairs K l)).length = m by rw [strs_length]; exact HM.out)
  have hbq : ((m : Int) == 0) = decide (m = 0) := beq_cast m 0
  go_wp2
  go_ret
  exact ⟨ret_bool HO.out.symm, b2⟩
set_option maxRecDepth 10000 in
set_option maxHeartbeats 800000 in
theorem iInLanguage (k : Int) (v : Value) (l : List ByteArray) (s : ByteArray) (w : World) (hm : Ml w) (h : Strs w v l) (hz : ∀ x ∈ l, x.size ≤ 1048576) (hs : s.size ≤ 1048576) :
    Calls Try.prog 30 #[.agg #[.int .i64 k, v], .string s] w fun e w' => e = .returned (.bool (inLang k l s)) ∧ Below w.heap.size w w' := by
  have hb := below_alloc w (.cells #[.int .i64 k, v] 30)
  have hbd : Below w.heap.size w (w.alloc (.cells #[.int .i64 k, v] 30)).drew := hb.drew
  have c0d : (w.alloc (.cells #[.int .i64 k, v] 30)).drew.cell? ⟨w.heap.size, 0, none⟩ = some (.int .i64 k) := by simp
  have c1d : (w.alloc (.cells #[.int .i64 k, v] 30)).drew.cell? ⟨w.heap.size, 1, none⟩ = some v := by simp
  obtain ⟨a, n, cap, rfl, -⟩ := h.open
  cases hS : isShift k l
  · have HO := Lib.hid (inLang_1 (s := s) hS)
    have HS := Lib.hid hS; clear hS
    go_enter Try.func30, Try.ntmps30
    go_wp2
    refine wp_region_held_drew (S := (fun w' => w'.cell? ⟨w.heap.size, 0, none⟩ = some (.int .i64 k) ∧ w'.cell? ⟨w.heap.size, 1, none⟩ = some (.slice a n cap))) (by kernel_rfl) ⟨c0d, c1d⟩ (fun hHeld => ?_)
    refine wpAnyH_take (i := 0) (v := .agg #[.int .i64 k, .slice a n cap]) rfl (by kernel_rfl) (by kernel_rfl) (by kernel_rfl) (fun _ _ _ h => h) (Or.inl ⟨by rfl, ?_⟩) hHeld ?_
    · (intro w hSw; (try dsimp only at hSw); go_simp)
    (try simp only [List.getElem_toArray, List.getElem_cons_zero, List.getElem_cons_succ, Act.put, List.setIfInBounds_toArray, List.set_cons_zero, List.set_cons_succ])
    refine wpAnyH_ready (rs := [1]) (by kernel_rfl) (by simp) ?_
    refine AllReadyH.cons rfl (fun Kx hKx => ?_) AllReadyH.nil
    go_simp
    (go_at_call 59; refine (iIsShift k _ l _ (h.keep hbd) hz).mono ?_; rintro e w1 ⟨rfl, hb1⟩; rw [HS.out]; have d0 := cell_keep hb1 c0d; have d1 := cell_keep hb1 c1d; have b1 : Below w.heap.size w w1 := hbd.trans (hb1.mono hbd.size))
    go_wp2_with fail
    refine hKx.out _ _ ⟨d0, d1⟩ (fun hHeld2 => ?_)
    (try simp only [List.getElem_toArray, List.getElem_cons_zero, List.getElem_cons_succ, Act.put, List.setIfInBounds_toArray, List.set_cons_zero, List.set_cons_succ])
    refine wpAnyH_take (i := 2) (v := .bool false) rfl (by kernel_rfl) (by kernel_rfl) (by kernel_rfl) (fun _ _ _ h => h) (Or.inl ⟨by rfl, ?_⟩) hHeld2 ?_
    · (intro w hSw; (try dsimp only at hSw); go_simp)
    (try simp only [List.getElem_toArray, List.getElem_cons_zero, List.getElem_cons_succ, Act.put, List.setIfInBounds_toArray, List.set_cons_zero, List.set_cons_succ])
    refine wpAnyH_take (i := 3) (v := undef) rfl (by kernel_rfl) (by kernel_rfl) (by kernel_rfl) (fun _ _ _ h => h) (Or.inr ⟨by rfl, rfl⟩) hHeld2 ?_
    (try simp only [List.getElem_toArray, List.getElem_cons_zero, List.getElem_cons_succ, Act.put, List.setIfInBounds_toArray, List.set_cons_zero, List.set_cons_succ])
    refine wpAnyH_take (i := 4) (v := undef) rfl (by kernel_rfl) (by kernel_rfl) (by kernel_rfl) (fun _ _ _ h => h) (Or.inr ⟨by rfl, rfl⟩) hHeld2 ?_
    (try simp only [List.getElem_toArray, List.getElem_cons_zero, List.getElem_cons_succ, Act.put, List.setIfInBounds_toArray, List.set_cons_zero, List.set_cons_succ])
    refine wpAnyH_take (i := 5) (v := undef) rfl (by kernel_rfl) (by kernel_rfl) (by kernel_rfl) (fun _ _ _ h => h) (Or.inr ⟨by rfl, rfl⟩) hHeld2 ?_
    (try simp only [List.getElem_toArray, List.getElem_cons_zero, List.getElem_cons_succ, Act.put, List.setIfInBounds_toArray, List.set_cons_zero, List.set_cons_succ])
    refine wpAnyH_take (i := 6) (v := undef) rfl (by kernel_rfl) (by kernel_rfl) (by kernel_rfl) (fun _ _ _ h => h) (Or.inr ⟨by rfl, rfl⟩) hHeld2 ?_
    (try simp only [List.getElem_toArray, List.getElem_cons_zero, List.getElem_cons_succ, Act.put, List.setIfInBounds_toArray, List.set_cons_zero, List.set_cons_succ])
    refine wpAnyH_take (i := 7) (v := .bool false) rfl (by kernel_rfl) (by kernel_rfl) (by kernel_rfl) (fun _ _ _ h => h) (Or.inl ⟨by rfl, ?_⟩) hHeld2 ?_
    · (intro w hSw; (try dsimp only at hSw); go_simp)
    (try simp only [List.getElem_toArray, List.getElem_cons_zero, List.getElem_cons_succ, Act.put, List.setIfInBounds_toArray, List.set_cons_zero, List.set_cons_succ])
    refine wpAnyH_take (i := 8) (v := .bool false) rfl (by kernel_rfl) (by kernel_rfl) (by kernel_rfl) (fun _ _ _ h => h) (Or.inl ⟨by rfl, ?_⟩) hHeld2 ?_
    · (intro w hSw; (try dsimp only at hSw); go_simp)
    (try simp only [List.getElem_toArray, List.getElem_cons_zero, List.getElem_cons_succ, Act.put, List.setIfInBounds_toArray, List.set_cons_zero, List.set_cons_succ])
    refine wpAnyH_take (i := 9) (v := undef) rfl (by kernel_rfl) (by kernel_rfl) (by kernel_rfl) (fun _ _ _ h => h) (Or.inr ⟨by rfl, rfl⟩) hHeld2 ?_
    (try simp only [List.getElem_toArray, List.getElem_cons_zero, List.getElem_cons_succ, Act.put, List.setIfInBounds_toArray, List.set_cons_zero, List.set_cons_succ])
    refine wpAnyH_take (i := 10) (v := undef) rfl (by kernel_rfl) (by kernel_rfl) (by kernel_rfl) (fun _ _ _ h => h) (Or.inr ⟨by rfl, rfl⟩) hHeld2 ?_
    (try simp only [List.getElem_toArray, List.getElem_cons_zero, List.getElem_cons_succ, Act.put, List.setIfInBounds_toArray, List.set_cons_zero, List.set_cons_succ])
    refine wpAnyH_take (i := 11) (v := undef) rfl (by kernel_rfl) (by kernel_rfl) (by kernel_rfl) (fun _ _ _ h => h) (Or.inr ⟨by rfl, rfl⟩) hHeld2 ?_
    (try simp only [List.getElem_toArray, List.getElem_cons_zero, List.getElem_cons_succ, Act.put, List.setIfInBounds_toArray, List.set_cons_zero, List.set_cons_succ])
    refine wpAnyH_take (i := 12) (v := undef) rfl (by kernel_rfl) (by kernel_rfl) (by kernel_rfl) (fun _ _ _ h => h) (Or.inr ⟨by rfl, rfl⟩) hHeld2 ?_
    (try simp only [List.getElem_toArray, List.getElem_cons_zero, List.getElem_cons_succ, Act.put, List.setIfInBounds_toArray, List.set_cons_zero, List.set_cons_succ])
    refine wpAnyH_take (i := 13) (v := undef) rfl (by kernel_rfl) (by kernel_rfl) (by kernel_rfl) (fun _ _ _ h => h) (Or.inr ⟨by rfl, rfl⟩) hHeld2 ?_
    (try simp only [List.getElem_toArray, List.getElem_cons_zero, List.getElem_cons_succ, Act.put, List.setIfInBounds_toArray, List.set_cons_zero, List.set_cons_succ])
    refine wpAnyH_take (i := 14) (v := .bool false) rfl (by kernel_rfl) (by kernel_rfl) (by kernel_rfl) (fun _ _ _ h => h) (Or.inl ⟨by rfl, ?_⟩) hHeld2 ?_
    · (intro w hSw; (try dsimp only at hSw); go_simp)
    (try simp only [List.getElem_toArray, List.getElem_cons_zero, List.getElem_cons_succ, Act.put, List.setIfInBounds_toArray, List.set_cons_zero, List.set_cons_succ])
    refine wpAnyH_take (i := 15) (v := .bool false) rfl (by kernel_rfl) (by kernel_rfl) (by kernel_rfl) (fun _ _ _ h => h) (Or.inl ⟨by rfl, ?_⟩) hHeld2 ?_
    · (intro w hSw; (try dsimp only at hSw); go_simp)
    (try simp only [List.getElem_toArray, List.getElem_cons_zero, List.getElem_cons_succ, Act.put, List.setIfInBounds_toArray, List.set_cons_zero, List.set_cons_succ])
    refine wpAnyH_done (by kernel_rfl) ?_ _
    go_wp2
    go_ret
    exact ⟨ret_bool HO.out.symm, b1⟩
  have hk := isShift_letters hS
  obtain ⟨K, rfl⟩ : ∃ K : Nat, k = K := ⟨k.toNat, by omega⟩
  cases hW : isWord K s
  · have HO := Lib.hid (inLang_2 (l := l) hW)
    have HS := Lib.hid hS
    have HW := Lib.hid hW; clear hS hW
    go_enter Try.func30, Try.ntmps30
    go_wp2
    refine wp_region_held_drew (S := (fun w' => w'.cell? ⟨w.heap.size, 0, none⟩ = some (.int .i64 K) ∧ w'.cell? ⟨w.heap.size, 1, none⟩ = some (.slice a n cap))) (by kernel_rfl) ⟨c0d, c1d⟩ (fun hHeld => ?_)
    refine wpAnyH_take (i := 0) (v := .agg #[.int .i64 K, .slice a n cap]) rfl (by kernel_rfl) (by kernel_rfl) (by kernel_rfl) (fun _ _ _ h => h) (Or.inl ⟨by rfl, ?_⟩) hHeld ?_
    · (intro w hSw; (try dsimp only at hSw); go_simp)
    (try simp only [List.getElem_toArray, List.getElem_cons_zero, List.getElem_cons_succ, Act.put, List.setIfInBounds_toArray, List.set_cons_zero, List.set_cons_succ])
    refine wpAnyH_ready (rs := [1]) (by kernel_rfl) (by simp) ?_
    refine AllReadyH.cons rfl (fun Kx hKx => ?_) AllReadyH.nil
    go_simp
    (go_at_call 59; refine (iIsShift (K : Int) _ l _ (h.keep hbd) hz).mono ?_; rintro e w1 ⟨rfl, hb1⟩; rw [HS.out]; have d0 := cell_keep hb1 c0d; have d1 := cell_keep hb1 c1d; have b1 : Below w.heap.size w w1 := hbd.trans (hb1.mono hbd.size))
    go_wp2_with fail
    refine hKx.out _ _ ⟨d0, d1⟩ (fun hHeld2 => ?_)
    (try simp only [List.getElem_toArray, List.getElem_cons_zero, List.getElem_cons_succ, Act.put, List.setIfInBounds_toArray, List.set_cons_zero, List.set_cons_succ])
    refine wpAnyH_take (i := 2) (v := .bool true) rfl (by kernel_rfl) (by kernel_rfl) (by kernel_rfl) (fun _ _ _ h => h) (Or.inl ⟨by rfl, ?_⟩) hHeld2 ?_
    · (intro w hSw; (try dsimp only at hSw); go_simp)
    (try simp only [List.getElem_toArray, List.getElem_cons_zero, List.getElem_cons_succ, Act.put, List.setIfInBounds_toArray, List.set_cons_zero, List.set_cons_succ])
    refine wpAnyH_take (i := 3) (v := .pointer (some ⟨w.heap.size, 0, none⟩)) rfl (by kernel_rfl) (by kernel_rfl) (by kernel_rfl) (fun _ _ _ h => h) (Or.inl ⟨by rfl, ?_⟩) hHeld2 ?_
    · (intro w hSw; (try dsimp only at hSw); go_simp)
    (try simp only [List.getElem_toArray, List.getElem_cons_zero, List.getElem_cons_succ, Act.put, List.setIfInBounds_toArray, List.set_cons_zero, List.set_cons_succ])
    refine wpAnyH_take (i := 4) (v := .int .i64 K) rfl (by kernel_rfl) (by kernel_rfl) (by kernel_rfl) (fun _ _ _ h => h) (Or.inl ⟨by rfl, ?_⟩) hHeld2 ?_
    · (intro w hSw; (try dsimp only at hSw); go_simp)
    (try simp only [List.getElem_toArray, List.getElem_cons_zero, List.getElem_cons_succ, Act.put, List.setIfInBounds_toArray, List.set_cons_zero, List.set_cons_succ])
    refine wpAnyH_take (i := 5) (v := .string s) rfl (by kernel_rfl) (by kernel_rfl) (by kernel_rfl) (fun _ _ _ h => h) (Or.inl ⟨by rfl, ?_⟩) hHeld2 ?_
    · (intro w hSw; (try dsimp only at hSw); go_simp)
    (try simp only [List.getElem_toArray, List.getElem_cons_zero, List.getElem_cons_succ, Act.put, List.setIfInBounds_toArray, List.set_cons_zero, List.set_cons_succ])
    refine wpAnyH_ready (rs := [6]) (by kernel_rfl) (by simp) ?_
    refine AllReadyH.cons rfl (fun Kx hKx => ?_) AllReadyH.nil
    go_simp
    (go_at_call 47; refine (iIsWord _ _ _ hs).mono ?_; rintro e w' ⟨rfl, rfl⟩; rw [HW.out])
    go_wp2_with fail
    refine hKx.out _ _ ⟨d0, d1⟩ (fun hHeld3 => ?_)
    (try simp only [List.getElem_toArray, List.getElem_cons_zero, List.getElem_cons_succ, Act.put, List.setIfInBounds_toArray, List.set_cons_zero, List.set_cons_succ])
    refine wpAnyH_take (i := 7) (v := .bool false) rfl (by kernel_rfl) (by kernel_rfl) (by kernel_rfl) (fun _ _ _ h => h) (Or.inl ⟨by rfl, ?_⟩) hHeld3 ?_
    · (intro w hSw; (try dsimp only at hSw); go_simp)
    (try simp only [List.getElem_toArray, List.getElem_cons_zero, List.getElem_cons_succ, Act.put, List.setIfInBounds_toArray, List.set_cons_zero, List.set_cons_succ])
    refine wpAnyH_take (i := 8) (v := .bool false) rfl (by kernel_rfl) (by kernel_rfl) (by kernel_rfl) (fun _ _ _ h => h) (Or.inl ⟨by rfl, ?_⟩) hHeld3 ?_
    · (intro w hSw; (try dsimp only at hSw); go_simp)
    (try simp only [List.getElem_toArray, List.getElem_cons_zero, List.getElem_cons_succ, Act.put, List.setIfInBounds_toArray, List.set_cons_zero, List.set_cons_succ])
    refine wpAnyH_take (i := 9) (v := undef) rfl (by kernel_rfl) (by kernel_rfl) (by kernel_rfl) (fun _ _ _ h => h) (Or.inr ⟨by rfl, rfl⟩) hHeld3 ?_
    (try simp only [List.getElem_toArray, List.getElem_cons_zero, List.getElem_cons_succ, Act.put, List.setIfInBounds_toArray, List.set_cons_zero, List.set_cons_succ])
    refine wpAnyH_take (i := 10) (v := undef) rfl (by kernel_rfl) (by kernel_rfl) (by kernel_rfl) (fun _ _ _ h => h) (Or.inr ⟨by rfl, rfl⟩) hHeld3 ?_
    (try simp only [List.getElem_toArray, List.getElem_cons_zero, List.getElem_cons_succ, Act.put, List.setIfInBounds_toArray, List.set_cons_zero, List.set_cons_succ])
    refine wpAnyH_take (i := 11) (v := undef) rfl (by kernel_rfl) (by kernel_rfl) (by kernel_rfl) (fun _ _ _ h => h) (Or.inr ⟨by rfl, rfl⟩) hHeld3 ?_
    (try simp only [List.getElem_toArray, List.getElem_cons_zero, List.getElem_cons_succ, Act.put, List.setIfInBounds_toArray, List.set_cons_zero, List.set_cons_succ])
    refine wpAnyH_take (i := 12) (v := undef) rfl (by kernel_rfl) (by kernel_rfl) (by kernel_rfl) (fun _ _ _ h => h) (Or.inr ⟨by rfl, rfl⟩) hHeld3 ?_
    (try simp only [List.getElem_toArray, List.getElem_cons_zero, List.getElem_cons_succ, Act.put, List.setIfInBounds_toArray, List.set_cons_zero, List.set_cons_succ])
    refine wpAnyH_take (i := 13) (v := undef) rfl (by kernel_rfl) (by kernel_rfl) (by kernel_rfl) (fun _ _ _ h => h) (Or.inr ⟨by rfl, rfl⟩) hHeld3 ?_
    (try simp only [List.getElem_toArray, List.getElem_cons_zero, List.getElem_cons_succ, Act.put, List.setIfInBounds_toArray, List.set_cons_zero, List.set_cons_succ])
    refine wpAnyH_take (i := 14) (v := .bool false) rfl (by kernel_rfl) (by kernel_rfl) (by kernel_rfl) (fun _ _ _ h => h) (Or.inl ⟨by rfl, ?_⟩) hHeld3 ?_
    · (intro w hSw; (try dsimp only at hSw); go_simp)
    (try simp only [List.getElem_toArray, List.getElem_cons_zero, List.getElem_cons_succ, Act.put, List.setIfInBounds_toArray, List.set_cons_zero, List.set_cons_succ])
    refine wpAnyH_take (i := 15) (v := .bool false) rfl (by kernel_rfl) (by kernel_rfl) (by kernel_rfl) (fun _ _ _ h => h) (Or.inl ⟨by rfl, ?_⟩) hHeld3 ?_
    · (intro w hSw; (try dsimp only at hSw); go_simp)
    (try simp only [List.getElem_toArray, List.getElem_cons_zero, List.getElem_cons_succ, Act.put, List.setIfInBounds_toArray, List.set_cons_zero, List.set_cons_succ])
    refine wpAnyH_done (by kernel_rfl) ?_ _
    go_wp2
    go_ret
    exact ⟨ret_bool HO.out.symm, b1⟩
  · have HO0 := Lib.hid (inLang_3 hS hW)
    obtain ⟨r, hr⟩ : ∃ r, inL K l s = r := ⟨_, rfl⟩
    have HO := Lib.hid hr
    rw [hr] at HO0
    clear hr
    have HS := Lib.hid hS
    have HW := Lib.hid hW; clear hS hW
    go_enter Try.func30, Try.ntmps30
    go_wp2
    refine wp_region_held_drew (S := (fun w' => w'.cell? ⟨w.heap.size, 0, none⟩ = some (.int .i64 K) ∧ w'.cell? ⟨w.heap.size, 1, none⟩ = some (.slice a n cap))) (by kernel_rfl) ⟨c0d, c1d⟩ (fun hHeld => ?_)
    refine wpAnyH_take (i := 0) (v := .agg #[.int .i64 K, .slice a n cap]) rfl (by kernel_rfl) (by kernel_rfl) (by kernel_rfl) (fun _ _ _ h => h) (Or.inl ⟨by rfl, ?_⟩) hHeld ?_
    · (intro w hSw; (try dsimp only at hSw); go_simp)
    (try simp only [List.getElem_toArray, List.getElem_cons_zero, List.getElem_cons_succ, Act.put, List.setIfInBounds_toArray, List.set_cons_zero, List.set_cons_succ])
    refine wpAnyH_ready (rs := [1]) (by kernel_rfl) (by simp) ?_
    refine AllReadyH.cons rfl (fun Kx hKx => ?_) AllReadyH.nil
    go_simp
    (go_at_call 59; refine (iIsShift (K : Int) _ l _ (h.keep hbd) hz).mono ?_; rintro e w1 ⟨rfl, hb1⟩; rw [HS.out]; have d0 := cell_keep hb1 c0d; have d1 := cell_keep hb1 c1d; have b1 : Below w.heap.size w w1 := hbd.trans (hb1.mono hbd.size))
    go_wp2_with fail
    refine hKx.out _ _ ⟨d0, d1⟩ (fun hHeld2 => ?_)
    (try simp only [List.getElem_toArray, List.getElem_cons_zero, List.getElem_cons_succ, Act.put, List.setIfInBounds_toArray, List.set_cons_zero, List.set_cons_succ])
    refine wpAnyH_take (i := 2) (v := .bool true) rfl (by kernel_rfl) (by kernel_rfl) (by kernel_rfl) (fun _ _ _ h => h) (Or.inl ⟨by rfl, ?_⟩) hHeld2 ?_
    · (intro w hSw; (try dsimp only at hSw); go_simp)
    (try simp only [List.getElem_toArray, List.getElem_cons_zero, List.getElem_cons_succ, Act.put, List.setIfInBounds_toArray, List.set_cons_zero, List.set_cons_succ])
    refine wpAnyH_take (i := 3) (v := .pointer (some ⟨w.heap.size, 0, none⟩)) rfl (by kernel_rfl) (by kernel_rfl) (by kernel_rfl) (fun _ _ _ h => h) (Or.inl ⟨by rfl, ?_⟩) hHeld2 ?_
    · (intro w hSw; (try dsimp only at hSw); go_simp)
    (try simp only [List.getElem_toArray, List.getElem_cons_zero, List.getElem_cons_succ, Act.put, List.setIfInBounds_toArray, List.set_cons_zero, List.set_cons_succ])
    refine wpAnyH_take (i := 4) (v := .int .i64 K) rfl (by kernel_rfl) (by kernel_rfl) (by kernel_rfl) (fun _ _ _ h => h) (Or.inl ⟨by rfl, ?_⟩) hHeld2 ?_
    · (intro w hSw; (try dsimp only at hSw); go_simp)
    (try simp only [List.getElem_toArray, List.getElem_cons_zero, List.getElem_cons_succ, Act.put, List.setIfInBounds_toArray, List.set_cons_zero, List.set_cons_succ])
    refine wpAnyH_take (i := 5) (v := .string s) rfl (by kernel_rfl) (by kernel_rfl) (by kernel_rfl) (fun _ _ _ h => h) (Or.inl ⟨by rfl, ?_⟩) hHeld2 ?_
    · (intro w hSw; (try dsimp only at hSw); go_simp)
    (try simp only [List.getElem_toArray, List.getElem_cons_zero, List.getElem_cons_succ, Act.put, List.setIfInBounds_toArray, List.set_cons_zero, List.set_cons_succ])
    refine wpAnyH_ready (rs := [6]) (by kernel_rfl) (by simp) ?_
    refine AllReadyH.cons rfl (fun Kx hKx => ?_) AllReadyH.nil
    go_simp
    (go_at_call 47; refine (iIsWord _ _ _ hs).mono ?_; rintro e w' ⟨rfl, rfl⟩; rw [HW.out])
    go_wp2_with fail
    refine hKx.out _ _ ⟨d0, d1⟩ (fun hHeld3 => ?_)
    (try simp only [List.getElem_toArray, List.getElem_cons_zero, List.getElem_cons_succ, Act.put, List.setIfInBounds_toArray, List.set_cons_zero, List.set_cons_succ])
    refine wpAnyH_take (i := 7) (v := .bool true) rfl (by kernel_rfl) (by kernel_rfl) (by kernel_rfl) (fun _ _ _ h => h) (Or.inl ⟨by rfl, ?_⟩) hHeld3 ?_
    · (intro w hSw; (try dsimp only at hSw); go_simp)
    (try simp only [List.getElem_toArray, List.getElem_cons_zero, List.getElem_cons_succ, Act.put, List.setIfInBounds_toArray, List.set_cons_zero, List.set_cons_succ])
    refine wpAnyH_take (i := 8) (v := .bool true) rfl (by kernel_rfl) (by kernel_rfl) (by kernel_rfl) (fun _ _ _ h => h) (Or.inl ⟨by rfl, ?_⟩) hHeld3 ?_
    · (intro w hSw; (try dsimp only at hSw); go_simp)
    (try simp only [List.getElem_toArray, List.getElem_cons_zero, List.getElem_cons_succ, Act.put, List.setIfInBounds_toArray, List.set_cons_zero, List.set_cons_succ])
    refine wpAnyH_take (i := 9) (v := .agg #[.int .i64 K, .slice a n cap]) rfl (by kernel_rfl) (by kernel_rfl) (by kernel_rfl) (fun _ _ _ h => h) (Or.inl ⟨by rfl, ?_⟩) hHeld3 ?_
    · (intro w hSw; (try dsimp only at hSw); go_simp)
    (try simp only [List.getElem_toArray, List.getElem_cons_zero, List.getElem_cons_succ, Act.put, List.setIfInBounds_toArray, List.set_cons_zero, List.set_cons_succ])
    refine wpAnyH_take (i := 10) (v := .agg #[.int .i64 K, .slice a n cap]) rfl (by kernel_rfl) (by kernel_rfl) (by kernel_rfl) (fun _ _ _ h => h) (Or.inl ⟨by rfl, ?_⟩) hHeld3 ?_
    · (intro w hSw; (try dsimp only at hSw); go_simp)
    (try simp only [List.getElem_toArray, List.getElem_cons_zero, List.getElem_cons_succ, Act.put, List.setIfInBounds_toArray, List.set_cons_zero, List.set_cons_succ])
    refine wpAnyH_take (i := 12) (v := .string s) rfl (by kernel_rfl) (by kernel_rfl) (by kernel_rfl) (fun _ _ _ h => h) (Or.inl ⟨by rfl, ?_⟩) hHeld3 ?_
    · (intro w hSw; (try dsimp only at hSw); go_simp)
    (try simp only [List.getElem_toArray, List.getElem_cons_zero, List.getElem_cons_succ, Act.put, List.setIfInBounds_toArray, List.set_cons_zero, List.set_cons_succ])
    refine wpAnyH_ready (rs := [11]) (by kernel_rfl) (by simp) ?_
    refine AllReadyH.cons rfl (fun Kx hKx => ?_) AllReadyH.nil
    go_simp
    (go_at_call 70; refine (istates K _ l _ (hm.keep b1) (h.keep b1) (by omega) (by omega)).mono ?_; rintro e w2 ⟨v2, rfl, ho2, hb2⟩; have b2 : Below w.heap.size w w2 := b1.trans (hb2.mono b1.size); have e0 := cell_keep hb2 d0; have e1 := cell_keep hb2 d1)
    go_wp2_with fail
    refine hKx.out _ _ ⟨e0, e1⟩ (fun hHeld4 => ?_)
    (try simp only [List.getElem_toArray, List.getElem_cons_zero, List.getElem_cons_succ, Act.put, List.setIfInBounds_toArray, List.set_cons_zero, List.set_cons_succ])
    refine wpAnyH_ready (rs := [13]) (by kernel_rfl) (by simp) ?_
    refine AllReadyH.cons rfl (fun Kx hKx => ?_) AllReadyH.nil
    go_simp
    (go_at_call 72; refine (ihas K (K : Int) _ l _ s _ (hm.keep b2) (h.keep b2) ho2.strs hs).mono ?_; rintro e w3 ⟨rfl, hb3⟩; rw [HO.out]; have f0 := cell_keep hb3 e0; have f1 := cell_keep hb3 e1; have b3 : Below w.heap.size w w3 := b2.trans (hb3.mono b2.size))
    go_wp2_with fail
    refine hKx.out _ _ ⟨f0, f1⟩ (fun hHeld5 => ?_)
    (try simp only [List.getElem_toArray, List.getElem_cons_zero, List.getElem_cons_succ, Act.put, List.setIfInBounds_toArray, List.set_cons_zero, List.set_cons_succ])
    refine wpAnyH_take (i := 14) (v := .bool r) rfl (by kernel_rfl) (by kernel_rfl) (by kernel_rfl) (fun _ _ _ h => h) (Or.inl ⟨by rfl, ?_⟩) hHeld5 ?_
    · (intro w hSw; (try dsimp only at hSw); go_simp)
    (try simp only [List.getElem_toArray, List.getElem_cons_zero, List.getElem_cons_succ, Act.put, List.setIfInBounds_toArray, List.set_cons_zero, List.set_cons_succ])
    refine wpAnyH_take (i := 15) (v := .bool r) rfl (by kernel_rfl) (by kernel_rfl) (by kernel_rfl) (fun _ _ _ h => h) (Or.inl ⟨by rfl, ?_⟩) hHeld5 ?_
    · (intro w hSw; (try dsimp only at hSw); go_simp)
    (try simp only [List.getElem_toArray, List.getElem_cons_zero, List.getElem_cons_succ, Act.put, List.setIfInBounds_toArray, List.set_cons_zero, List.set_cons_succ])
    refine wpAnyH_done (by kernel_rfl) ?_ _
    go_wp2
    go_ret
    exact ⟨ret_bool HO0.out.symm, b3⟩
set_option maxRecDepth 10000 in
set_option maxHeartbeats 400000 in
theorem iIsEmptyShift (k : Int) (v : Value) (l : List ByteArray) (w : World) (hm : Ml w) (h : Strs w v l) (hz : ∀ x ∈ l, x.size ≤ 1048576) :
    Calls Try.prog 28 #[.agg #[.int .i64 k, v]] w fun e w' => e = .returned (.bool (isEmptyS k l)) ∧ Below w.heap.size w w' := by
  have hb := below_alloc w (.cells #[.int .i64 k, v] 30)
  have c0 : (w.alloc (.cells #[.int .i64 k, v] 30)).cell? ⟨w.heap.size, 0, none⟩ = some (.int .i64 k) := by simp
  have c1 : (w.alloc (.cells #[.int .i64 k, v] 30)).cell? ⟨w.heap.size, 1, none⟩ = some v := by simp
  obtain ⟨a, n, cap, rfl, -⟩ := h.open
  go_enter Try.func28, Try.ntmps28
  go_wp2_with fail
  refine (iIsShift k _ l _ (h.keep hb) hz).mono ?_
  rintro e w1 ⟨rfl, hb1⟩
  have d0 := cell_keep hb1 c0
  have d1 := cell_keep hb1 c1
  have b1 := hb.trans (hb1.mono (by simp))
  clear c0 c1 hb hb1
  cases hS : isShift k l
  · have HO := Lib.hid (isEmptyS_1 hS); clear hS
    go_wp2
    go_ret
    exact ⟨ret_bool HO.out.symm, b1⟩
  have hk := isShift_letters hS
  obtain ⟨K, rfl⟩ : ∃ K : Nat, k = K := ⟨k.toNat, by omega⟩
  obtain ⟨m, hm9⟩ : ∃ m, (pairs K l).length = m := ⟨_, rfl⟩
  have HO := Lib.hid (isEmptyS_2 hS hm9)
  have HM := Lib.hid hm9; clear hS hm9
  go_wp2_with fail
  refine (istates K _ l _ (hm.keep b1) (h.keep b1) (by omega) (by omega)).mono ?_
  rintro e w2 ⟨v2, rfl, ho2, hb2⟩
  have b2 := b1.trans (hb2.mono b1.size)
  obtain ⟨a2, c2, rfl⟩ := Own.form ho2 (show (strs (pairs K l)).length = m by rw [strs_length]; exact HM.out)
  have hbq : ((m : Int) == 0) = decide (m = 0) := beq_cast m 0
  go_wp2
  go_ret
  exact ⟨ret_bool HO.out.symm, b2⟩
end Go.Proofs.Ytidfnhoeaofgeaa
