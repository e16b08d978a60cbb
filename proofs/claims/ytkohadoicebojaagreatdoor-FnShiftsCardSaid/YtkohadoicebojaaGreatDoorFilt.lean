/- The words of a length for which something holds: the avoiding words, the program's and the reference's. No statement is proved here. -/
import Derived.Test.YtkohadoicebojaaGreatDoorAvoid
import Derived.Test.YtkohadoicebojaaGreatDoorOutS
import Derived.Test.YtkohadoicebojaaGreatDoorWordsOf
import Derived.Test.YtkohadoicebojaaGreatDoorApp2
namespace Go.Proofs.YtkohadoicebojaaGreatDoor
open Go.RowKit Go.Deep
/-- The elements among the first j for which something holds. -/
def filT {α : Type} (p : α → Bool) (l : List α) (j : Nat) : List α := (l.take j).filter p
theorem filT_zero {α : Type} (p : α → Bool) (l : List α) : filT p l 0 = [] := by simp [filT]
theorem filT_yes {α : Type} {p : α → Bool} {l : List α} {j : Nat} {x : α} (h : l[j]? = some x) (hp : p x = true) : filT p l (j + 1) = filT p l j ++ [x] := by
  unfold filT; rw [List.take_add_one, h]; simp [hp]
theorem filT_no {α : Type} {p : α → Bool} {l : List α} {j : Nat} {x : α} (h : l[j]? = some x) (hp : p x = false) : filT p l (j + 1) = filT p l j := by
  unfold filT; rw [List.take_add_one, h]; simp [hp]
theorem filT_all {α : Type} {p : α → Bool} {l : List α} {n j : Nat} (hl : l.length = n) (hj : ¬ j < n) : filT p l j = l.filter p := by
  unfold filT; rw [List.take_of_length_le (by omega)]
theorem filT_len {α : Type} (p : α → Bool) (l : List α) (j : Nat) : (filT p l j).length ≤ j := by
  have h1 := List.length_filter_le p (l.take j)
  have h2 : (l.take j).length ≤ j := by rw [List.length_take]; omega
  unfold filT; omega
variable {α : Type}
/-- One round of elimination: what has a next and a former one in the list. -/
theorem words_length (k n : Nat) : (words k n).length = kp k n := by unfold words; rw [wordsTo_length]
theorem words_small {k n : Nat} (hk : k ≤ 3) (hn : n ≤ 6) : (words k n).length ≤ 729 := by
  rw [words_length]
  have h1 : kp k n ≤ 3 ^ n := Nat.pow_le_pow_left hk n
  have h2 : 3 ^ n ≤ 3 ^ 6 := Nat.pow_le_pow_right (by omega) hn
  have h3 : (3 : Nat) ^ 6 = 729 := rfl
  omega
theorem word_in {k n j : Nat} {x : ByteArray} (h : (words k n)[j]? = some x) : x.size = n := words_size k n x (List.mem_of_getElem? h)
set_option maxRecDepth 10000 in
set_option maxHeartbeats 400000 in
theorem ifiltA (c : Int) (v : Value) (l : List ByteArray) (k n : Nat) (w : World) (hm : Ml w) (h : Strs w v l) (hk1 : 1 ≤ k) (hk : k ≤ 3) (hn : n ≤ 6) :
    Calls Tryz.prog 88 #[.int .i64 k, .int .i64 n, .func (.func 89) #[.agg #[.int .i64 c, v]] #[]] w fun e w' => ∃ v', e = .returned v' ∧ OwnS 9 w.heap.size w' v' ((words k n).filter (avo l)) ∧ Below w.heap.size w w' := by
  have he := Own.empty 9 w
  have hb := below_alloc w (.cells #[] 9)
  have hM9 := words_small hk hn
  obtain ⟨M, hM⟩ : ∃ M, (words k n).length = M := ⟨_, rfl⟩
  rw [hM] at hM9
  have HM := Lib.hid hM; clear hM
  go_enter Tryz.func88, Tryz.ntmps88
  go_wp2_with fail
  refine (iwordsOf k n _ hk1 hk (by omega)).mono ?_
  rintro e w2 ⟨v2, rfl, ho2, hb2⟩
  obtain ⟨a2, c2, rfl⟩ := Own.form ho2 (show (strs (words k n)).length = M by rw [strs_length]; exact HM.out)
  replace he := he.keep hb2
  replace hb := hb.trans (hb2.mono hb.size)
  have hH := OwnS.toH ho2
  have hz2 : w.heap.size + 1 ≤ w2.heap.size := by have := hb2.size; simpa using this
  clear ho2
  have hOut0 : Out (w.heap.size + 1) w2.heap.size (.slice (some ⟨w.heap.size, 0, none⟩) 0 0) := fun k hk => by simp [Value.ownBlock] at hk; omega
  replace hH : OwnSH 9 (w.heap.size + 1) w2.heap.size w2 (.slice a2 M c2) (words k n) := ⟨hH.1.mono (by simp), hH.2⟩
  go_wp2
  go_loopw [7, 15] (fun q i wr => ∃ j : Nat, j ≤ M ∧ i = .int .i64 j ∧ Own 9 w.heap.size wr q (strs (filT (avo l) (words k n) j)) ∧ OwnSH 9 (w.heap.size + 1) w2.heap.size wr (.slice a2 M c2) (words k n) ∧ Out (w.heap.size + 1) w2.heap.size q ∧ Below w.heap.size w wr ∧ w2.heap.size ≤ wr.heap.size) (fun _ i _ => M - (intOf i).toNat)
  case atStart => exact ⟨0, Nat.zero_le _, rfl, by rw [filT_zero]; exact he, hH, hOut0, hb, Nat.le_refl _⟩
  case round =>
    clear hH hOut0 he hb
    obtain ⟨j, hj, rfl, hq, hH, hO, hbr, hz⟩ := hrel
    by_cases hlt : j < M
    · obtain ⟨a3, n3, c3, hv, HL3, hn3, HC3⟩ := hH.strs.open
      cases hv
      obtain ⟨b, off, x, rfl, hc, HX⟩ := HC3.out j hlt
      have hxs : x.size ≤ 1048576 := by rw [word_in HX.out]; omega
      clear HC3 HL3
      have hsr := hbr.size
      have hFL := filT_len (avo l) (words k n) j
      go_wp2_with fail
      refine (iavoids c v l x _ (hm.keep hbr) (h.keep hbr) hxs).mono ?_
      rintro e w3 ⟨rfl, hb3⟩
      have hq3 := hq.keep hb3
      have hH3 := hH.keep hb3
      have hbr3 := hbr.trans (hb3.mono hsr)
      have hz3 := Nat.le_trans hz hb3.size
      clear hq hH hbr
      cases hA : avo l x
      · have HS := Lib.hid (filT_no HX.out hA)
        clear hA
        go_wp2
        go_roundw
        case rel => exact ⟨j + 1, by omega, by go_num, by rw [HS.out]; exact hq3, hH3, hO, hbr3, hz3⟩
        case measure => simp [intOf]; omega
      · have HS := Lib.hid (filT_yes HX.out hA)
        clear hA
        go_wp2_with (at_builtin; refine app1b 39 9 16 (.string ByteArray.empty) Tryz.underlying39 Tryz.infoStr rfl hq3 (.string x) rfl ?h1 ?h2 (by omega) rfl _ _ rfl rfl rfl (by simp) ?_)
        case h1 => rw [strs_length]; unfold maxLen; omega
        case h2 => rw [strs_length]; omega
        intro q' w4 hq4 hg hsz4 hblk
        have hH4 := hH3.grownOut hg hO
        have hO4 := hO.next hblk (by omega)
        have hbr4 := hbr3.trans (hq3.below hg (Nat.le_refl _) (by omega))
        clear hq3 hH3 hbr3 hg hblk
        go_wp2
        go_roundw
        case rel => exact ⟨j + 1, by omega, by go_num, by rw [HS.out, strs_append]; exact hq4, hH4, hO4, hbr4, by omega⟩
        case measure => simp [intOf]; omega
    · have HS := Lib.hid (filT_all (p := avo l) HM.out hlt)
      go_wp2
      go_ret
      exact ⟨_, rfl, by rw [← HS.out]; exact hq, hbr⟩
theorem sAvoidsB (v : Value) (l : List ByteArray) (s : ByteArray) (b : Bool) (w : World) (h : Strs w v l) (hz : ∀ x ∈ l, x.size ≤ 1048576) (hs : s.size ≤ 1048576) (hb : avo l s = b) :
    Calls Tryz.prog 95 #[v, .string s] w fun e w' => e = .returned (.bool b) ∧ w' = w := by
  subst hb; exact (sAvoids v l s w h hz hs).mono fun _ _ h => ⟨h.1, h.2.symm⟩
set_option maxRecDepth 10000 in
set_option maxHeartbeats 400000 in
theorem sl3Words (k : Nat) (v : Value) (l : List ByteArray) (n : Nat) (w : World) (h : Strs w v l) (hz : ∀ x ∈ l, x.size ≤ 1048576) (hk1 : 1 ≤ k) (hk : k ≤ 3) (hn : n ≤ 6) :
    Calls Tryz.prog 90 #[.agg #[.int .i64 k, v], .int .i64 n] w fun e w' => ∃ v', e = .returned v' ∧ OwnS 9 w.heap.size w' v' ((words k n).filter (avo l)) ∧ Below w.heap.size w w' := by
  have HZ := Lib.hid hz; clear hz
  have hb0 := below_alloc w (.cells #[.int .i64 k, v] 41)
  have c1 : (w.alloc (.cells #[.int .i64 k, v] 41)).cell? ⟨w.heap.size, 1, none⟩ = some v := by simp
  have z0 : (w.alloc (.cells #[.int .i64 k, v] 41)).heap.size = w.heap.size + 1 := by simp
  have he := Own.empty 9 (w.alloc (.cells #[.int .i64 k, v] 41))
  have hba := below_alloc (w.alloc (.cells #[.int .i64 k, v] 41)) (.cells #[] 9)
  have zz : ((w.alloc (.cells #[.int .i64 k, v] 41)).alloc (.cells #[] 9)).heap.size = w.heap.size + 2 := by simp
  rw [z0] at he
  have hM9 := words_small hk hn
  obtain ⟨M, hM⟩ : ∃ M, (words k n).length = M := ⟨_, rfl⟩
  rw [hM] at hM9
  have HM := Lib.hid hM; clear hM
  obtain ⟨av, nv, cv, rfl, -⟩ := h.open
  have hkn : kp k n ≤ 19683 := kp_le hk (by omega)
  go_enter Tryz.func90, Tryz.ntmps90
  go_wp2_with fail
  refine (sAll k n _ hk1 hk (by omega) hkn).mono ?_
  rintro e w2 ⟨v2, rfl, ho2, hb2⟩
  obtain ⟨a2, c2, rfl⟩ := Own.form ho2 (show (strs (words k n)).length = M by rw [strs_length]; exact HM.out)
  have hz2 := hb2.size
  rw [zz] at hz2
  replace he := he.keep hb2
  have d1 := cell_keep hb2 (cell_keep hba c1)
  have hb := (hb0.trans ((hba.trans (hb2.mono hba.size)).mono (by omega)))
  have hH : OwnSH 9 (w.heap.size + 2) w2.heap.size w2 (.slice a2 M c2) (words k n) := ⟨Own.mono ho2 (by omega), (OwnS.toH ho2).2⟩
  have hOut0 : Out (w.heap.size + 2) w2.heap.size (.slice (some ⟨w.heap.size + 1, 0, none⟩) 0 0) := fun k hk => by simp [Value.ownBlock] at hk; omega
  clear ho2 hb2 hba c1 zz hb0 z0 hkn
  go_wp2
  go_loopw [5, 7] (fun q i wr => ∃ j : Nat, j ≤ M ∧ i = .int .i64 j ∧ Own 9 (w.heap.size + 1) wr q (strs (filT (avo l) (words k n) j)) ∧ OwnSH 9 (w.heap.size + 2) w2.heap.size wr (.slice a2 M c2) (words k n) ∧ Out (w.heap.size + 2) w2.heap.size q ∧ Below (w.heap.size + 1) w2 wr) (fun _ i _ => M - (intOf i).toNat)
  case atStart => exact ⟨0, Nat.zero_le _, rfl, by rw [filT_zero]; exact he, hH, hOut0, Below.refl _ _⟩
  case round =>
    clear hH hOut0 he
    obtain ⟨j, hj, rfl, hq, hH, hO, hbr⟩ := hrel
    have hsr := hbr.size
    by_cases hlt : j < M
    · obtain ⟨a3, n3, c3, hv, HL3, hn3, HC3⟩ := hH.strs.open
      cases hv
      obtain ⟨b, off, x, rfl, hc, HX⟩ := HC3.out j hlt
      have hxs : x.size ≤ 1048576 := by rw [word_in HX.out]; omega
      clear HC3 HL3
      have d2 : wr.cell? ⟨w.heap.size, 1, none⟩ = some (.slice av nv cv) := by rw [hbr.cell (p := ⟨w.heap.size, 1, none⟩) (by simp)]; exact d1
      have hL : Strs wr (.slice av nv cv) l := h.keep (hb.trans (hbr.mono (by omega)))
      have hFL := filT_len (avo l) (words k n) j
      cases hA : avo l x
      · have HS := Lib.hid (filT_no HX.out hA)
        have HA := Lib.hid hA; clear hA
        go_wp2
        go_quiet ((go_at_call 95; exact Calls.quiet_of_same (sAvoidsB _ l x _ _ (hL.keep (below_drewN _ _)) HZ.out hxs HA.out)))
        go_wp2
        go_roundw
        case rel => exact ⟨j + 1, by omega, by go_num, by rw [HS.out]; exact hq.keep (below_drewN _ _), hH.keep (below_drewN _ _), hO, hbr.trans ((below_drewN _ _).mono (by omega))⟩
        case measure => simp [intOf]; omega
      · have HS := Lib.hid (filT_yes HX.out hA)
        have HA := Lib.hid hA; clear hA
        go_wp2
        go_quiet ((go_at_call 95; exact Calls.quiet_of_same (sAvoidsB _ l x _ _ (hL.keep (below_drewN _ _)) HZ.out hxs HA.out)))
        go_wp2_with (at_builtin; refine app1b 39 9 16 (.string ByteArray.empty) Tryz.underlying39 Tryz.infoStr rfl (hq.keep (below_drewN _ _)) (.string x) rfl ?h1 ?h2 (show w.heap.size + 1 ≤ wr.heap.size by omega) rfl _ _ rfl rfl rfl (by simp) ?_)
        case h1 => rw [strs_length]; unfold maxLen; omega
        case h2 => rw [strs_length]; omega
        intro q' w4 hq4 hg hsz4 hblk
        have hsz5 : wr.heap.size + 1 ≤ w4.heap.size := hsz4
        have hH4 := (hH.keep (below_drewN _ _)).grownOut hg hO
        have hO4 := hO.next hblk (show w2.heap.size ≤ wr.heap.size + 1 by omega)
        have hbr4 := (hbr.trans ((below_drewN wr _).mono (by omega))).trans ((hq.keep (below_drewN _ _)).below hg (Nat.le_refl _) (show w.heap.size + 1 ≤ wr.heap.size by omega))
        clear hg hblk
        go_wp2
        go_roundw
        case rel => exact ⟨j + 1, by omega, by go_num, by rw [HS.out, strs_append]; exact hq4, hH4, hO4, hbr4⟩
        case measure => simp [intOf]; omega
    · have HS := Lib.hid (filT_all (p := avo l) HM.out hlt)
      go_wp2
      go_ret
      exact ⟨_, rfl, by rw [← HS.out]; exact hq.mono (by omega), hb.trans (hbr.mono (by omega))⟩
end Go.Proofs.YtkohadoicebojaaGreatDoor
