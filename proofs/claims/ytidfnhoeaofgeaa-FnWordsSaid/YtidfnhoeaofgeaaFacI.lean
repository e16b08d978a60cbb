/- The different parts of a word, the program's (by the library's contracts of sorting and compacting). No statement is proved here. -/
import Derived.Test.YtidfnhoeaofgeaaFacP
import Derived.Test.YtidfnhoeaofgeaaShelf2
import Derived.Test.YtidfnhoeaofgeaaWordA
import Derived.Test.YtidfnhoeaofgeaaApp
import Derived.Lib.OwnBridge
namespace Go.Proofs.Ytidfnhoeaofgeaa
open Go.RowKit Go.Deep
theorem below_grow (w : World) (os : Array Obj) : Below w.heap.size w (Sort.grow w os) := ⟨rfl, rfl, rfl, by simp, fun k hk => Sort.heap_grow_old w os hk⟩
def difS (L : List ByteArray) : List ByteArray := (dif (L.map bts)).map str
theorem map_encBts (L : List ByteArray) : (L.map bts).map encStr = strs L := Lib.map_encStr L
theorem map_encStr' (L : List BL) : L.map encStr = strs (L.map str) := by
  have h : (L.map str).map bts = L := by simp [Function.comp_def, bts_str]
  rw [← map_encBts, h]
set_option maxRecDepth 10000 in
set_option maxHeartbeats 400000 in
theorem idifferent (B : Nat) (v : Value) (L : List ByteArray) (w : World) (h : Own 9 B w v (strs L)) (hne : L ≠ []) (hL : L.length ≤ 1000000) (hB : B ≤ w.heap.size) :
    Calls Try.prog 97 #[v] w fun e w' => ∃ v', e = .returned v' ∧ Own 9 B w' v' (strs (difS L)) ∧ Below B w w' := by
  have h' : w.ownsRow B 9 1 v (L.map bts).length ((L.map bts).map encStr) := by
    have e : (strs L).length = (L.map bts).length := by rw [strs_length, List.length_map]
    unfold Own at h
    rw [e, ← map_encBts] at h; exact h
  have hpos : 0 < (L.map bts).length := by rw [List.length_map]; exact List.length_pos_iff.2 hne
  have hnn : v ≠ .slice none 0 0 := by
    rintro rfl
    rcases h'.2 with ⟨_, e⟩ | ⟨g, c, cur, e, _⟩
    · omega
    · cases e
  obtain ⟨g, cap, rfl, hBg, hgl, hnc, hcm, -, hH⟩ := Lib.holds_of_ownsRow h' hnn
  obtain ⟨Z, hZ⟩ : ∃ Z, (L.map bts).mergeSort (fun x y => decide (x ≤ y)) = Z := ⟨_, rfl⟩
  have hZl : Z.length = (L.map bts).length := by rw [← hZ, List.length_mergeSort]
  have HD : Hid (dif (L.map bts) = Lib.compact Z) := Lib.hid (by unfold dif; rw [hZ])
  obtain ⟨N, hN⟩ : ∃ N, (L.map bts).length = N := ⟨_, rfl⟩
  have hN9 : N ≤ 1000000 := by rw [← hN, List.length_map]; exact hL
  have hS := fun W hW hb => Try.slices_Sort_string g 0 cap (L.map bts) W hW hb (by omega)
  rw [hN] at h' hnc hZl hS
  rw [hZ] at hS
  have hC := fun W hW => Try.slices_Compact_string g 0 cap Z W hW (by omega) (by omega)
  rw [hZl] at hC
  have HZL := Lib.hid hZl
  have HN := Lib.hid hN
  rw [hN]
  clear hZ hZl hN hnn h
  go_enter Try.func97, Try.ntmps97
  go_wp2_with fail
  refine (hS _ hH hgl).mono ?_
  rintro e w1 ⟨rfl, n1, os, rfl⟩
  have o1 := Lib.ownsRow_putRow (q := n1) (k := N) (ys := Z) h' HZL.out (Nat.le_refl _)
  rw [List.take_of_length_le (by rw [HZL.out]; exact Nat.le_refl _)] at o1
  have b1 : Below B w (Sort.putRow encStr (Sort.ahead w n1) g 0 Z.toArray) := Lib.below_putRow (Below.refl _ _) hBg
  have hg := below_grow (Sort.putRow encStr (Sort.ahead w n1) g 0 Z.toArray) os
  obtain ⟨W1, hW1⟩ : ∃ W1, Sort.grow (Sort.putRow encStr (Sort.ahead w n1) g 0 Z.toArray) os = W1 := ⟨_, rfl⟩
  rw [hW1] at hg ⊢
  have b2 : Below B w W1 := b1.trans (hg.mono (Nat.le_trans hB b1.size))
  have o2 : W1.ownsRow B 9 1 (.slice (some ⟨g, 0, none⟩) N cap) N (Z.map encStr) := by
    have hl : N = (Z.map encStr).length := by rw [List.length_map, HZL.out]
    have : Own 9 B (Sort.putRow encStr (Sort.ahead w n1) g 0 Z.toArray) (.slice (some ⟨g, 0, none⟩) N cap) (Z.map encStr) := by unfold Own; rw [← hl]; exact o1
    have := this.keep hg
    unfold Own at this; rw [← hl] at this; exact this
  obtain ⟨g2, cap2, e2, -, -, -, -, -, hH2⟩ := Lib.holds_of_ownsRow o2 (by simp)
  cases e2
  clear o1 b1 hg hW1
  go_wp2_with fail
  refine (hC _ hH2).mono ?_
  rintro e w2 ⟨rfl, n2, rfl⟩
  have hcl := Lib.compact_length_le Z
  rw [HZL.out] at hcl
  have o3 := Lib.ownsRow_putRow (q := n2) (k := (Lib.compact Z).length) (ys := Lib.compact Z ++ List.replicate (N - (Lib.compact Z).length) []) o2 (by simp; omega) hcl
  rw [List.take_left' rfl] at o3
  have b3 : Below B w (Sort.putRow encStr (Sort.ahead W1 n2) g 0 (Lib.compact Z ++ List.replicate (N - (Lib.compact Z).length) []).toArray) := Lib.below_putRow b2 hBg
  go_wp2
  go_ret
  refine ⟨_, rfl, ?_, b3⟩
  have hl : (Lib.compact Z).length = (strs (difS L)).length := by unfold difS; rw [strs_length, List.length_map, HD.out]
  have he : (Lib.compact Z).map encStr = strs (difS L) := by unfold difS; rw [HD.out, map_encStr']
  unfold Own
  rw [← hl, ← he]; exact o3
/-- The parts of a length, by their places. -/
def piece (s : ByteArray) (n i : Nat) : ByteArray := s.extract i (i + n)
def pieces (s : ByteArray) (n c : Nat) : List ByteArray := (List.range c).map (piece s n)
theorem pieces_len (s : ByteArray) (n c : Nat) : (pieces s n c).length = c := by simp [pieces]
theorem pieces_succ (s : ByteArray) (n c : Nat) : pieces s n (c + 1) = pieces s n c ++ [piece s n c] := by simp [pieces, List.range_succ]
def facS (s : ByteArray) (n c : Nat) : List ByteArray := (insAll ((pieces s n c).map bts)).map str
theorem facS_len (s : ByteArray) (n c : Nat) : (facS s n c).length ≤ c := by
  unfold facS
  rw [List.length_map]
  have := insAll_len ((pieces s n c).map bts)
  rw [List.length_map, pieces_len] at this; exact this
def facB (s : ByteArray) (n : Int) : Bool := isWord 3 s && inR n 0 s.size
def facL (s : ByteArray) (n : Int) : List ByteArray := if facB s n = true then facS s n.toNat (s.size - n.toNat + 1) else []
theorem facL_1 {s : ByteArray} {n : Int} (h : isWord 3 s = false) : facL s n = [] := if_neg (by unfold facB; rw [h]; simp)
theorem facL_2 {s : ByteArray} {n : Int} (h : inR n 0 s.size = false) : facL s n = [] := if_neg (by unfold facB; rw [h]; simp)
theorem facL_3 {s : ByteArray} {n : Nat} (h : isWord 3 s = true) (h2 : inR n 0 s.size = true) : facL s n = facS s n (s.size - n + 1) := by
  unfold facL; rw [if_pos (by unfold facB; rw [h, h2]; rfl), Int.toNat_natCast]
theorem isWord_16 {k : Int} {s : ByteArray} (h : isWord k s = true) : s.size ≤ 16 := by
  unfold isWord at h
  simp only [Bool.and_eq_true, decide_eq_true_eq] at h
  omega
theorem facL_len (s : ByteArray) (n : Int) : (facL s n).length ≤ 1000 := by
  cases h : facB s n
  · unfold facL; rw [if_neg (by rw [h]; decide)]; simp
  · have h' := h
    unfold facB at h'
    rw [Bool.and_eq_true] at h'
    have h1 := isWord_16 h'.1
    unfold facL; rw [if_pos h]
    have := facS_len s n.toNat (s.size - n.toNat + 1)
    omega
set_option maxRecDepth 10000 in
set_option maxHeartbeats 400000 in
theorem iparts (s : ByteArray) (n : Nat) (w : World) (hs : s.size ≤ 16) (hn : n ≤ s.size) :
    Calls Try.prog 75 #[.string s, .int .i64 n] w fun e w' => ∃ v', e = .returned v' ∧ Own 9 w.heap.size w' v' (strs (facS s n (s.size - n + 1))) ∧ Below w.heap.size w w' := by
  obtain ⟨c, hc⟩ : ∃ c, s.size - n + 1 = c := ⟨_, rfl⟩
  have hc1 : c ≤ 17 := by omega
  have hc2 : s.size + 1 ≤ c + n := by omega
  have hc3 : c + n ≤ s.size + 1 := by omega
  have hc4 : 1 ≤ c := by omega
  rw [hc]
  clear hc
  go_enter Try.func75, Try.ntmps75
  go_wp2
  go_loopw [5, 6] (fun q i wr => ∃ j : Nat, j ≤ c ∧ i = .int .i64 j ∧ Own 9 w.heap.size wr q (strs (pieces s n j)) ∧ Below w.heap.size w wr) (fun _ i _ => c - (intOf i).toNat)
  case atStart => exact ⟨0, Nat.zero_le _, rfl, Own.empty _ _, below_alloc _ _⟩
  case round =>
    obtain ⟨j, hj, rfl, hq, hb⟩ := hrel
    have hsr := hb.size
    by_cases hlt : j + n ≤ s.size
    · obtain ⟨x, hx⟩ : ∃ x, s.extract j (j + n) = x := ⟨_, rfl⟩
      have HS : Hid (pieces s n (j + 1) = pieces s n j ++ [x]) := Lib.hid (by rw [pieces_succ, piece, hx])
      have HPL := Lib.hid (pieces_len s n j)
      go_wp2_with (at_builtin; refine app1 25 9 16 (.string ByteArray.empty) Try.underlying25 Try.infoStr rfl hq (.string x) rfl ?h1 ?h2 hsr rfl _ _ rfl rfl rfl (by simp) ?_)
      case h1 => rw [strs_length, HPL.out]; unfold maxLen; omega
      case h2 => rw [strs_length, HPL.out]; omega
      intro q' w3 hq3 hg _
      go_wp2
      go_roundw
      case rel => exact ⟨j + 1, by omega, by go_num, by rw [HS.out, strs_append]; exact hq3, hb.trans (hq.below hg (Nat.le_refl _) hsr)⟩
      case measure => simp [intOf]; omega
    · have e : j = c := by omega
      subst e
      have HPL := Lib.hid (pieces_len s n j)
      have HD : Hid (difS (pieces s n j) = facS s n j) := Lib.hid (by unfold difS facS; rw [dif_insAll])
      go_wp2_with fail
      refine (idifferent w.heap.size _ (pieces s n j) _ hq (by intro e; have := HPL.out; rw [e] at this; simp at this; omega) (by rw [HPL.out]; omega) hsr).mono ?_
      rintro e w4 ⟨v4, rfl, ho4, hb4⟩
      go_wp2
      go_ret
      exact ⟨_, rfl, by rw [← HD.out]; exact ho4, hb.trans hb4⟩
set_option maxRecDepth 10000 in
set_option maxHeartbeats 400000 in
theorem iFactorsOf (s : ByteArray) (n : Int) (w : World) (hs : s.size ≤ 1048576) :
    Calls Try.prog 34 #[.string s, .int .i64 n] w fun e w' => ∃ v', e = .returned v' ∧ OwnS 9 w.heap.size w' v' (facL s n) ∧ Below w.heap.size w w' := by
  have he := Own.nil 9 w.heap.size w
  cases hW : isWord 3 s
  · have HO := Lib.hid (facL_1 (n := n) hW)
    have HW := Lib.hid hW; clear hW
    go_enter Try.func34, Try.ntmps34
    go_wp2_with (go_at_call 47; refine (iIsWord _ _ _ hs).mono ?_; rintro e w' ⟨rfl, rfl⟩; rw [HW.out])
    go_ret
    exact ⟨_, rfl, by rw [HO.out]; exact he, Below.refl _ _⟩
  by_cases hn0 : n < 0
  · have HO := Lib.hid (facL_2 (s := s) (n := n) (inR_no.2 (by omega)))
    have HW := Lib.hid hW; clear hW
    go_enter Try.func34, Try.ntmps34
    go_wp2_with (go_at_call 47; refine (iIsWord _ _ _ hs).mono ?_; rintro e w' ⟨rfl, rfl⟩; rw [HW.out])
    go_ret
    exact ⟨_, rfl, by rw [HO.out]; exact he, Below.refl _ _⟩
  by_cases hn1 : (s.size : Int) < n
  · have HO := Lib.hid (facL_2 (s := s) (n := n) (inR_no.2 (by omega)))
    have HW := Lib.hid hW; clear hW
    go_enter Try.func34, Try.ntmps34
    go_wp2_with (go_at_call 47; refine (iIsWord _ _ _ hs).mono ?_; rintro e w' ⟨rfl, rfl⟩; rw [HW.out])
    go_ret
    exact ⟨_, rfl, by rw [HO.out]; exact he, Below.refl _ _⟩
  obtain ⟨N, rfl⟩ : ∃ N : Nat, n = N := ⟨n.toNat, by omega⟩
  have HO := Lib.hid (facL_3 hW (inR_iff.2 (by omega : (0 : Int) ≤ (N : Int) ∧ (N : Int) ≤ s.size)))
  have h16 := isWord_16 hW
  have HW := Lib.hid hW; clear hW
  go_enter Try.func34, Try.ntmps34
  go_wp2_with fail
  refine (iIsWord _ _ _ hs).mono ?_
  rintro e w' ⟨rfl, rfl⟩
  rw [HW.out]
  go_wp2_with fail
  refine (iparts s N _ h16 (by omega)).mono ?_
  rintro e w2 ⟨v2, rfl, ho2, hb2⟩
  go_wp2
  go_ret
  exact ⟨_, rfl, by rw [HO.out]; exact ho2, hb2⟩
