/- LanguageOf, the program's and the reference's. No statement is proved here. -/
import Derived.Test.YtidfnhoeaofgeaaLang
namespace Go.Proofs.Ytidfnhoeaofgeaa
open Go.RowKit Go.Deep
set_option linter.unusedSimpArgs false
theorem langL_no {k n : Int} {f : List ByteArray} (h : langB k n f = false) : langL k f n = [] := if_neg (by rw [h]; decide)
theorem langL_yes {k n : Nat} {f : List ByteArray} (h : langB k n f = true) : langL k f n = (words k n).filter (inL k f) := by unfold langL; rw [if_pos h, Int.toNat_natCast, Int.toNat_natCast]
theorem langL_len (k : Int) (f : List ByteArray) (n : Int) : (langL k f n).length ≤ 1000 := by
  cases h : langB k n f
  · rw [langL_no h]; simp
  · have h' := h
    unfold langB at h'
    rw [Bool.and_eq_true] at h'
    have h1 := isShift_letters h'.1
    have h2 := inR_iff.1 h'.2
    unfold langL
    rw [if_pos h]
    have h3 := List.length_filter_le (inL k.toNat f) (words k.toNat n.toNat)
    have h4 := words_small (k := k.toNat) (n := n.toNat) (by omega) (by omega)
    omega
set_option maxRecDepth 10000 in
set_option maxHeartbeats 400000 in
theorem iclo (k : Nat) (v : Value) (l : List ByteArray) (vs : Value) (b1 b2 : Nat) (x : ByteArray) (w : World) (hm : Ml w) (h : Strs w v l) (hS : Strs w vs (pairs k l)) (q0 : w.cell? ⟨b1, 0, none⟩ = some (.int .i64 k)) (q1 : w.cell? ⟨b1, 1, none⟩ = some v) (q2 : w.cell? ⟨b2, 0, none⟩ = some vs) (hx : x.size ≤ 1048576) :
    Calls Try.prog 96 #[.string x, .pointer (some ⟨b1, 0, none⟩), .pointer (some ⟨b2, 0, none⟩)] w fun e w' => e = .returned (.bool (inL k l x)) ∧ Below w.heap.size w w' := by
  obtain ⟨a, n, cap, rfl, -⟩ := h.open
  obtain ⟨as1, ns1, cs1, rfl, -⟩ := hS.open
  go_enter Try.func96, Try.ntmps96
  go_wp2_with fail
  refine (ihas k k _ l _ x _ hm h hS hx).mono ?_
  rintro e w2 ⟨rfl, hb2⟩
  go_wp2
  go_ret
  exact ⟨rfl, hb2⟩
set_option maxRecDepth 10000 in
set_option maxHeartbeats 400000 in
theorem ifiltL (kk : Nat) (v : Value) (l : List ByteArray) (vs : Value) (b1 b2 : Nat) (k n : Nat) (w : World) (hm : Ml w) (h : Strs w v l) (hS : Strs w vs (pairs kk l)) (q0 : w.cell? ⟨b1, 0, none⟩ = some (.int .i64 kk)) (q1 : w.cell? ⟨b1, 1, none⟩ = some v) (q2 : w.cell? ⟨b2, 0, none⟩ = some vs) (hk1 : 1 ≤ k) (hk : k ≤ 3) (hn : n ≤ 6) :
    Calls Try.prog 68 #[.int .i64 k, .int .i64 n, .func (.func 96) #[] #[.pointer (some ⟨b1, 0, none⟩), .pointer (some ⟨b2, 0, none⟩)]] w fun e w' => ∃ v', e = .returned v' ∧ OwnS 9 w.heap.size w' v' ((words k n).filter (inL kk l)) ∧ Below w.heap.size w w' := by
  have he := Own.empty 9 w
  have hb := below_alloc w (.cells #[] 9)
  have hM9 := words_small hk hn
  obtain ⟨M, hM⟩ : ∃ M, (words k n).length = M := ⟨_, rfl⟩
  rw [hM] at hM9
  have HM := Lib.hid hM; clear hM
  go_enter Try.func68, Try.ntmps68
  go_wp2_with fail
  refine (iwordsOf k n _ hk1 hk (by omega)).mono ?_
  rintro e w2 ⟨v2, rfl, ho2, hb2⟩
  obtain ⟨a2, c2, rfl⟩ := Own.form ho2 (show (strs (words k n)).length = M by rw [strs_length]; exact HM.out)
  replace he := he.keep hb2
  replace hb := hb.trans (hb2.mono hb.size)
  have hH := OwnS.toH ho2
  have hz2 : w.heap.size + 1 ≤ w2.heap.size := by have := hb2.size; simpa using this
  clear ho2
  have hOut0 : Out (w.heap.size + 1) w2.heap.size (.slice (some ⟨w.heap.size, 0, none⟩) 0 0) := fun k hk => by simp [Value.ownBlock] at hk; omega
  replace hH : OwnSH 9 (w.heap.size + 1) w2.heap.size w2 (.slice a2 M c2) (words k n) := ⟨hH.1.mono (by simp), hH.2⟩
  go_wp2
  go_loopw [7, 15] (fun q i wr => ∃ j : Nat, j ≤ M ∧ i = .int .i64 j ∧ Own 9 w.heap.size wr q (strs (filT (inL kk l) (words k n) j)) ∧ OwnSH 9 (w.heap.size + 1) w2.heap.size wr (.slice a2 M c2) (words k n) ∧ Out (w.heap.size + 1) w2.heap.size q ∧ Below w.heap.size w wr ∧ w2.heap.size ≤ wr.heap.size) (fun _ i _ => M - (intOf i).toNat)
  case atStart => exact ⟨0, Nat.zero_le _, rfl, by rw [filT_zero]; exact he, hH, hOut0, hb, Nat.le_refl _⟩
  case round =>
    clear hH hOut0 he hb
    obtain ⟨j, hj, rfl, hq, hH, hO, hbr, hz⟩ := hrel
    by_cases hlt : j < M
    · obtain ⟨a3, n3, c3, hv, HL3, hn3, HC3⟩ := hH.strs.open
      cases hv
      obtain ⟨b, off, x, rfl, hc, HX⟩ := HC3.out j hlt
      have hxs : x.size ≤ 1048576 := by rw [word_in HX.out]; omega
      clear HC3 HL3
      have hsr := hbr.size
      have hFL := filT_len (inL kk l) (words k n) j
      go_wp2_with fail
      refine (iclo kk v l vs b1 b2 x _ (hm.keep hbr) (h.keep hbr) (hS.keep hbr) (cell_keep hbr q0) (cell_keep hbr q1) (cell_keep hbr q2) hxs).mono ?_
      rintro e w3 ⟨rfl, hb3⟩
      have hq3 := hq.keep hb3
      have hH3 := hH.keep hb3
      have hbr3 := hbr.trans (hb3.mono hsr)
      have hz3 := Nat.le_trans hz hb3.size
      clear hq hH hbr
      cases hA : inL kk l x
      · have HS := Lib.hid (filT_no HX.out hA)
        clear hA
        go_wp2
        go_roundw
        case rel => exact ⟨j + 1, by omega, by go_num, by rw [HS.out]; exact hq3, hH3, hO, hbr3, hz3⟩
        case measure => simp [intOf]; omega
      · have HS := Lib.hid (filT_yes HX.out hA)
        clear hA
        go_wp2_with (at_builtin; refine app1b 25 9 16 (.string ByteArray.empty) Try.underlying25 Try.infoStr rfl hq3 (.string x) rfl ?h1 ?h2 (by omega) rfl _ _ rfl rfl rfl (by simp) ?_)
        case h1 => rw [strs_length]; unfold maxLen; omega
        case h2 => rw [strs_length]; omega
        intro q' w4 hq4 hg hsz4 hblk
        have hH4 := hH3.grownOut hg hO
        have hO4 := hO.next hblk (by omega)
        have hbr4 := hbr3.trans (hq3.below hg (Nat.le_refl _) (by omega))
        clear hq3 hH3 hbr3 hg hblk
        go_wp2
        go_roundw
        case rel => exact ⟨j + 1, by omega, by go_num, by rw [HS.out, strs_append]; exact hq4, hH4, hO4, hbr4, by omega⟩
        case measure => simp [intOf]; omega
    · have HS := Lib.hid (filT_all (p := inL kk l) HM.out hlt)
      go_wp2
      go_ret
      exact ⟨_, rfl, by rw [← HS.out]; exact hq, hbr⟩
set_option maxRecDepth 10000 in
set_option maxHeartbeats 400000 in
theorem ilanguage (k n : Nat) (v : Value) (l : List ByteArray) (w : World) (hm : Ml w) (h : Strs w v l) (hk1 : 1 ≤ k) (hk : k ≤ 3) (hn : n ≤ 6) :
    Calls Try.prog 73 #[.agg #[.int .i64 k, v], .int .i64 n] w fun e w' => ∃ v', e = .returned v' ∧ OwnS 9 w.heap.size w' v' ((words k n).filter (inL k l)) ∧ Below w.heap.size w w' := by
  have hb0 := below_alloc w (.cells #[.int .i64 k, v] 30)
  have c0 : (w.alloc (.cells #[.int .i64 k, v] 30)).cell? ⟨w.heap.size, 0, none⟩ = some (.int .i64 k) := by simp
  have c1 : (w.alloc (.cells #[.int .i64 k, v] 30)).cell? ⟨w.heap.size, 1, none⟩ = some v := by simp
  obtain ⟨a, m, cap, rfl, -⟩ := h.open
  go_enter Try.func73, Try.ntmps73
  go_wp2_with fail
  refine (istates k _ l _ (hm.keep hb0) (h.keep hb0) hk1 hk).mono ?_
  rintro e w2 ⟨v2, rfl, ho2, hb2⟩
  have d0 := cell_keep hb2 c0
  have d1 := cell_keep hb2 c1
  have b2 := hb0.trans (hb2.mono hb0.size)
  obtain ⟨a2, c2, rfl⟩ := Own.form ho2 rfl
  have hba := below_alloc w2 (.cells #[.slice a2 (strs (pairs k l)).length c2] 25)
  have e0 := cell_keep hba d0
  have e1 := cell_keep hba d1
  have e2 : (w2.alloc (.cells #[.slice a2 (strs (pairs k l)).length c2] 25)).cell? ⟨w2.heap.size, 0, none⟩ = some (.slice a2 (strs (pairs k l)).length c2) := by simp
  have b3 := b2.trans (hba.mono b2.size)
  go_wp2_with fail
  refine (ifiltL k _ l _ w.heap.size w2.heap.size k n _ (hm.keep b3) (h.keep b3) (ho2.strs.keep hba) e0 e1 e2 hk1 hk hn).mono ?_
  rintro e w4 ⟨v4, rfl, ho4, hb4⟩
  go_wp2
  go_ret
  exact ⟨_, rfl, Own.mono ho4 b3.size, b3.trans (hb4.mono b3.size)⟩
theorem Out.sub {lo hi lo' hi' : Nat} {v : Value} (h : Out lo hi v) (h1 : lo ≤ lo') (h2 : hi' ≤ hi) : Out lo' hi' v := fun k hk => by have := h k hk; omega
set_option maxRecDepth 10000 in
set_option maxHeartbeats 800000 in
theorem sLanguageOf (k : Int) (v : Value) (l : List ByteArray) (n : Int) (w : World) (h : Strs w v l) (hz : ∀ x ∈ l, x.size ≤ 1048576) :
    Calls Try.prog 31 #[.agg #[.int .i64 k, v], .int .i64 n] w fun e w' => ∃ v', e = .returned v' ∧ OwnS 9 w.heap.size w' v' (langL k l n) ∧ Below w.heap.size w w' := by
  have HZ := Lib.hid hz
  have hb0 := below_alloc w (.cells #[.int .i64 k, v] 30)
  have z0 : (w.alloc (.cells #[.int .i64 k, v] 30)).heap.size = w.heap.size + 1 := by simp
  have hba := below_alloc (w.alloc (.cells #[.int .i64 k, v] 30)) (.cells #[] 9)
  have zz : ((w.alloc (.cells #[.int .i64 k, v] 30)).alloc (.cells #[] 9)).heap.size = w.heap.size + 2 := by simp
  have c0 : ((w.alloc (.cells #[.int .i64 k, v] 30)).alloc (.cells #[] 9)).cell? ⟨w.heap.size, 0, none⟩ = some (.int .i64 k) := cell_keep hba (by simp)
  have c1 : ((w.alloc (.cells #[.int .i64 k, v] 30)).alloc (.cells #[] 9)).cell? ⟨w.heap.size, 1, none⟩ = some v := cell_keep hba (by simp)
  have he := Own.empty 9 (w.alloc (.cells #[.int .i64 k, v] 30))
  rw [z0] at he
  have hb := hb0.trans (hba.mono hb0.size)
  obtain ⟨a, m, cap, rfl, -⟩ := h.open
  clear hb0 z0 hba
  go_enter Try.func31, Try.ntmps31
  go_wp2_with fail
  refine (sIsShift k _ l _ (h.keep hb) hz).mono ?_
  rintro e w1 ⟨rfl, hb1⟩
  have d0 := cell_keep hb1 c0
  have d1 := cell_keep hb1 c1
  have z1 := hb1.size
  rw [zz] at z1
  have b1 := hb.trans (hb1.mono hb.size)
  replace he := he.keep hb1
  have h1 := h.keep b1
  have hs1 := b1.size
  have h0 := h
  clear c0 c1 hb hb1 zz h
  cases hS : isShift k l
  · have HO := Lib.hid (langL_no (langB_1 (n := n) hS)); clear hS
    go_wp2
    go_ret
    exact ⟨_, rfl, by rw [HO.out]; exact he.mono (by omega), b1⟩
  cases hN : inR n 0 6
  · have HO := Lib.hid (langL_no (f := l) (langB_2 (k := k) hN))
    have HN := Lib.hid hN; clear hS hN
    go_wp2_with (go_at_call 61; refine (l1In' _ _ _ _).mono ?_; rintro e w2 ⟨rfl, rfl⟩; rw [HN.out])
    go_ret
    exact ⟨_, rfl, by rw [HO.out]; exact he.mono (by omega), b1⟩
  have hk := isShift_letters hS
  have hn := inR_iff.1 hN
  obtain ⟨K, rfl⟩ : ∃ K : Nat, k = K := ⟨k.toNat, by omega⟩
  obtain ⟨M, rfl⟩ : ∃ M : Nat, n = M := ⟨n.toNat, by omega⟩
  have HO := Lib.hid (langL_yes (langB_3 hS hN))
  have HN := Lib.hid hN; clear hS hN
  have hN9 := words_small (k := K) (n := M) (by omega) (by omega)
  obtain ⟨N, hNn⟩ : ∃ N, (words K M).length = N := ⟨_, rfl⟩
  rw [hNn] at hN9
  have HNN := Lib.hid hNn; clear hNn
  have hkn : kp K M ≤ 19683 := kp_le (by omega) (by omega)
  go_wp2_with fail
  refine (l1In' _ _ _ _).mono ?_
  rintro e w2 ⟨rfl, rfl⟩
  rw [HN.out]
  go_wp2_with fail
  refine (sl3Pairs K _ l _ h1 hz (by omega) (by omega)).mono ?_
  rintro e w2 ⟨v2, rfl, ho2, hb2⟩
  have e0 := cell_keep hb2 d0
  have e1 := cell_keep hb2 d1
  have b2 := b1.trans (hb2.mono hs1)
  have z2 := hb2.size
  replace he := he.keep hb2
  obtain ⟨ap, cp, rfl⟩ := Own.form ho2 rfl
  obtain ⟨np, hnp⟩ : ∃ np, (strs (pairs K l)).length = np := ⟨_, rfl⟩
  rw [hnp] at ho2 ⊢
  clear d0 d1 hb2 hnp
  go_wp2_with fail
  refine (sAll K M _ (by omega) (by omega) (by omega) hkn).mono ?_
  rintro e w3 ⟨v3, rfl, ho3, hb3⟩
  obtain ⟨aa, ca, rfl⟩ := Own.form ho3 (show (strs (words K M)).length = N by rw [strs_length]; exact HNN.out)
  have f0 := cell_keep hb3 e0
  have f1 := cell_keep hb3 e1
  have b3 := b2.trans (hb3.mono b2.size)
  have z3 := hb3.size
  replace he := he.keep hb3
  have hP : OwnSH 9 (w.heap.size + 2) w3.heap.size w3 (.slice ap np cp) (pairs K l) := ⟨(Own.keep ho2 hb3).mono (by omega), fun j hj => by have := (Own.lt ho2 j hj).2; omega⟩
  have hA : OwnSH 9 (w.heap.size + 2) w3.heap.size w3 (.slice aa N ca) (words K M) := ⟨Own.mono ho3 (by omega), (OwnS.toH ho3).2⟩
  have hOut0 : Out (w.heap.size + 2) w3.heap.size (.slice (some ⟨w.heap.size + 1, 0, none⟩) 0 0) := fun k hk => by simp [Value.ownBlock] at hk; omega
  clear e0 e1 hb3 ho2 ho3
  go_wp2
  go_loopw [5, 8] (fun q i wr => ∃ j : Nat, j ≤ N ∧ i = .int .i64 j ∧ Own 9 (w.heap.size + 1) wr q (strs (filT (inL K l) (words K M) j)) ∧ OwnSH 9 (w.heap.size + 2) w3.heap.size wr (.slice ap np cp) (pairs K l) ∧ OwnSH 9 (w.heap.size + 2) w3.heap.size wr (.slice aa N ca) (words K M) ∧ Out (w.heap.size + 2) w3.heap.size q ∧ Below (w.heap.size + 1) w3 wr) (fun _ i _ => N - (intOf i).toNat)
  case atStart => exact ⟨0, Nat.zero_le _, rfl, by rw [filT_zero]; exact he, hP, hA, hOut0, Below.refl _ _⟩
  case round =>
    clear hP hA hOut0 he
    obtain ⟨j, hj, rfl, hq, hP, hA, hO, hbr⟩ := hrel
    have hsr := hbr.size
    have hbw : Below w.heap.size w wr := b3.trans (hbr.mono (by omega))
    by_cases hlt : j < N
    · obtain ⟨a3, n3, c3, hv, HL3, hn3, HC3⟩ := hA.strs.open
      cases hv
      obtain ⟨b, off, x, rfl, hc, HX⟩ := HC3.out j hlt
      have hxs : x.size ≤ 1048576 := by rw [word_in HX.out]; omega
      clear HC3 HL3
      have f0d : wr.drew.cell? ⟨w.heap.size, 0, none⟩ = some (.int .i64 K) := by show wr.cell? _ = _; rw [hbr.cell (p := ⟨w.heap.size, 0, none⟩) (by simp)]; exact f0
      have f1d : wr.drew.cell? ⟨w.heap.size, 1, none⟩ = some (.slice a m cap) := by show wr.cell? _ = _; rw [hbr.cell (p := ⟨w.heap.size, 1, none⟩) (by simp)]; exact f1
      have hcd : wr.drew.cell? ⟨b, off + j, none⟩ = some (.string x) := hc
      have hlD : Strs wr.drew (.slice a m cap) l := h0.keep hbw.drew
      have hPD : OwnSH 9 (w.heap.size + 2) w3.heap.size wr.drew (.slice ap np cp) (pairs K l) := hP
      have hAD : OwnSH 9 (w.heap.size + 2) w3.heap.size wr.drew (.slice (some ⟨b, off, none⟩) N ca) (words K M) := hA
      have hqD : Own 9 (w.heap.size + 1) wr.drew _ (strs (filT (inL K l) (words K M) j)) := hq
      have hbD : Below (w.heap.size + 1) w3 wr.drew := hbr.drew
      have hFL := filT_len (inL K l) (words K M) j
      obtain ⟨bb, hbb⟩ : ∃ bb, inL K l x = bb := ⟨_, rfl⟩
      have HA := Lib.hid hbb
      have HS := Lib.hid (filT_step HX.out hbb)
      clear hbb hc hP hA hq hbr
      go_wp2
      refine wp_region_held_drew (S := (fun w' => w'.cell? ⟨w.heap.size, 0, none⟩ = some (.int .i64 K) ∧ w'.cell? ⟨w.heap.size, 1, none⟩ = some (.slice a m cap) ∧ w'.cell? ⟨b, off + j, none⟩ = some (.string x))) (by kernel_rfl) ⟨f0d, f1d, hcd⟩ (fun hHeld => ?_)
      refine wpAnyH_take (i := 0) (v := .agg #[.int .i64 K, .slice a m cap]) rfl (by kernel_rfl) (by kernel_rfl) (by kernel_rfl) (fun _ _ _ h => h) (Or.inl ⟨by rfl, ?_⟩) hHeld ?_
      · (intro w hSw; (try dsimp only at hSw); go_simp)
      (try simp only [List.getElem_toArray, List.getElem_cons_zero, List.getElem_cons_succ, Act.put, List.setIfInBounds_toArray, List.set_cons_zero, List.set_cons_succ])
      refine wpAnyH_take (i := 1) (v := .slice ap np cp) rfl (by kernel_rfl) (by kernel_rfl) (by kernel_rfl) (fun _ _ _ h => h) (Or.inl ⟨by rfl, ?_⟩) hHeld ?_
      · (intro w hSw; (try dsimp only at hSw); go_simp)
      (try simp only [List.getElem_toArray, List.getElem_cons_zero, List.getElem_cons_succ, Act.put, List.setIfInBounds_toArray, List.set_cons_zero, List.set_cons_succ])
      refine wpAnyH_take (i := 2) (v := .slice (some ⟨b, off, none⟩) N ca) rfl (by kernel_rfl) (by kernel_rfl) (by kernel_rfl) (fun _ _ _ h => h) (Or.inl ⟨by rfl, ?_⟩) hHeld ?_
      · (intro w hSw; (try dsimp only at hSw); go_simp)
      (try simp only [List.getElem_toArray, List.getElem_cons_zero, List.getElem_cons_succ, Act.put, List.setIfInBounds_toArray, List.set_cons_zero, List.set_cons_succ])
      refine wpAnyH_take (i := 3) (v := .int .i64 j) rfl (by kernel_rfl) (by kernel_rfl) (by kernel_rfl) (fun _ _ _ h => h) (Or.inl ⟨by rfl, ?_⟩) hHeld ?_
      · (intro w hSw; (try dsimp only at hSw); go_simp)
      (try simp only [List.getElem_toArray, List.getElem_cons_zero, List.getElem_cons_succ, Act.put, List.setIfInBounds_toArray, List.set_cons_zero, List.set_cons_succ])
      refine wpAnyH_take (i := 4) (v := .pointer (some ⟨b, off + j, none⟩)) rfl (by kernel_rfl) (by kernel_rfl) (by kernel_rfl) (fun _ _ _ h => h) (Or.inl ⟨by rfl, ?_⟩) hHeld ?_
      · (intro w hSw; (try dsimp only at hSw); go_simp)
      (try simp only [List.getElem_toArray, List.getElem_cons_zero, List.getElem_cons_succ, Act.put, List.setIfInBounds_toArray, List.set_cons_zero, List.set_cons_succ])
      refine wpAnyH_take (i := 5) (v := .string x) rfl (by kernel_rfl) (by kernel_rfl) (by kernel_rfl) (fun _ _ _ h => h) (Or.inl ⟨by rfl, ?_⟩) hHeld ?_
      · (intro w hSw; (try dsimp only at hSw); go_simp)
      (try simp only [List.getElem_toArray, List.getElem_cons_zero, List.getElem_cons_succ, Act.put, List.setIfInBounds_toArray, List.set_cons_zero, List.set_cons_succ])
      refine wpAnyH_ready (rs := [6]) (by kernel_rfl) (by simp) ?_
      refine AllReadyH.cons rfl (fun Kx hKx => ?_) AllReadyH.nil
      go_simp
      (go_at_call 71; refine (sl3In K (K : Int) _ l _ x _ hlD HZ.out hPD.strs hxs).mono ?_; rintro e w6 ⟨rfl, hb6⟩; rw [HA.out]; have e0 := cell_keep (w := wr.drew) hb6 f0d; have e1 := cell_keep (w := wr.drew) hb6 f1d; have ex := cell_keep (w := wr.drew) hb6 hcd)
      go_wp2_with fail
      refine hKx.out _ _ ⟨e0, e1, ex⟩ (fun hHeld2 => ?_)
      (try simp only [List.getElem_toArray, List.getElem_cons_zero, List.getElem_cons_succ, Act.put, List.setIfInBounds_toArray, List.set_cons_zero, List.set_cons_succ])
      refine wpAnyH_done (by kernel_rfl) ?_ _
      have hP6 := hPD.keep hb6
      have hA6 := hAD.keep hb6
      have hq6 := hqD.keep hb6
      have hb7 := hbD.trans (hb6.mono (show w.heap.size + 1 ≤ wr.drew.heap.size from Nat.le_trans (by omega) hbD.size))
      have hs7 := hb7.size
      clear hPD hAD hqD hbD hb6 f0d f1d hcd hHeld hHeld2 e0 e1 hlD
      cases bb
      · go_wp2
        go_roundw
        case rel => exact ⟨j + 1, by omega, by go_num, by rw [HS.out]; simpa using hq6, hP6, hA6, hO, hb7⟩
        case measure => simp [intOf]; omega
      · go_wp2_with (at_builtin; refine app1b 25 9 16 (.string ByteArray.empty) Try.underlying25 Try.infoStr rfl hq6 (.string x) rfl ?h1 ?h2 (by omega) rfl _ _ rfl rfl rfl (by simp) ?_)
        case h1 => rw [strs_length]; unfold maxLen; omega
        case h2 => rw [strs_length]; omega
        intro q' w8 hq8 hg hsz8 hblk
        have hP8 := hP6.grownOut hg hO
        have hA8 := hA6.grownOut hg hO
        have hO8 := hO.next hblk (by omega)
        have hb8 := hb7.trans (hq6.below hg (Nat.le_refl _) (by omega))
        clear hq6 hP6 hA6 hb7 hg hblk
        go_wp2
        go_roundw
        case rel => exact ⟨j + 1, by omega, by go_num, by rw [HS.out, if_pos trivial, strs_append]; exact hq8, hP8, hA8, hO8, hb8⟩
        case measure => simp [intOf]; omega
    · have HS := Lib.hid (filT_all (p := inL K l) HNN.out hlt)
      go_wp2
      go_ret
      exact ⟨_, rfl, by rw [HO.out, ← HS.out]; exact hq.mono (by omega), hbw⟩
set_option maxRecDepth 10000 in
set_option maxHeartbeats 400000 in
theorem iLanguageOf (k : Int) (v : Value) (l : List ByteArray) (n : Int) (w : World) (hm : Ml w) (h : Strs w v l) (hz : ∀ x ∈ l, x.size ≤ 1048576) :
    Calls Try.prog 32 #[.agg #[.int .i64 k, v], .int .i64 n] w fun e w' => ∃ v', e = .returned v' ∧ OwnS 9 w.heap.size w' v' (langL k l n) ∧ Below w.heap.size w w' := by
  have hb := below_alloc w (.cells #[.int .i64 k, v] 30)
  have c0 : (w.alloc (.cells #[.int .i64 k, v] 30)).cell? ⟨w.heap.size, 0, none⟩ = some (.int .i64 k) := by simp
  have c1 : (w.alloc (.cells #[.int .i64 k, v] 30)).cell? ⟨w.heap.size, 1, none⟩ = some v := by simp
  have he := Own.nil 9 w.heap.size w
  obtain ⟨a, m, cap, rfl, -⟩ := h.open
  go_enter Try.func32, Try.ntmps32
  go_wp2_with fail
  refine (iIsShift k _ l _ (h.keep hb) hz).mono ?_
  rintro e w1 ⟨rfl, hb1⟩
  have d0 := cell_keep hb1 c0
  have d1 := cell_keep hb1 c1
  have b1 := hb.trans (hb1.mono (by simp))
  have h1 := h.keep b1
  have hm1 := hm.keep b1
  have hs1 := b1.size
  have he1 := Own.nil 9 w.heap.size w1
  clear c0 c1 hb hb1 h hm he
  cases hS : isShift k l
  · have HO := Lib.hid (langL_no (langB_1 (n := n) hS)); clear hS
    go_wp2
    go_ret
    exact ⟨_, rfl, by rw [HO.out]; exact he1, b1⟩
  by_cases hn0 : n < 0
  · have HO := Lib.hid (langL_no (f := l) (langB_2 (k := k) (n := n) (inR_no.2 (by omega)))); clear hS
    go_wp2
    go_ret
    exact ⟨_, rfl, by rw [HO.out]; exact he1, b1⟩
  by_cases hn6 : 6 < n
  · have HO := Lib.hid (langL_no (f := l) (langB_2 (k := k) (n := n) (inR_no.2 (by omega)))); clear hS
    go_wp2
    go_ret
    exact ⟨_, rfl, by rw [HO.out]; exact he1, b1⟩
  · have hk := isShift_letters hS
    obtain ⟨K, rfl⟩ : ∃ K : Nat, k = K := ⟨k.toNat, by omega⟩
    obtain ⟨M, rfl⟩ : ∃ M : Nat, n = M := ⟨n.toNat, by omega⟩
    have HO := Lib.hid (langL_yes (langB_3 hS (inR_iff.2 (by omega : (0 : Int) ≤ (M : Int) ∧ (M : Int) ≤ 6)))); clear hS
    go_wp2_with fail
    refine (ilanguage K M _ l _ hm1 h1 (by omega) (by omega) (by omega)).mono ?_
    rintro e w2 ⟨v2, rfl, ho2, hb2⟩
    go_wp2
    go_ret
    exact ⟨_, rfl, by rw [HO.out]; exact Own.mono ho2 hs1, b1.trans (hb2.mono hs1)⟩
end Go.Proofs.Ytidfnhoeaofgeaa
