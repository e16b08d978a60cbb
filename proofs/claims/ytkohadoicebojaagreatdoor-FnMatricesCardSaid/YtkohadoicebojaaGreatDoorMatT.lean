/- MatrixText, the program's (by the library's contracts) and the reference's. No statement is proved here. -/
import Derived.Test.YtkohadoicebojaaGreatDoorNum
import Derived.Test.YtkohadoicebojaaGreatDoorJoin
import Derived.Test.YtkohadoicebojaaGreatDoorMatA
namespace Go.Proofs.YtkohadoicebojaaGreatDoor
open Go.RowKit Go.Deep
def mtxs (r : List Int) : List ByteArray := r.map fmtI
theorem txts_take_succ {r : List Int} {j : Nat} {x : Int} (h : r[j]? = some x) : mtxs (r.take (j + 1)) = mtxs (r.take j) ++ [fmtI x] := by
  rw [take_snoc h]; simp [mtxs]
theorem mtxs_len (r : List Int) : (mtxs r).length = r.length := by simp [mtxs]
theorem totalS_le {l : List ByteArray} {c : Nat} (h : ∀ s ∈ l, s.size ≤ c) : totalS l ≤ c * l.length := by
  induction l with
  | nil => exact Nat.zero_le _
  | cons a l ih =>
    have e : totalS (a :: l) = a.size + totalS l := by simp [totalS]
    have h1 := h a (List.mem_cons_self ..)
    have h2 := ih fun s hs => h s (List.mem_cons_of_mem _ hs)
    rw [e, List.length_cons, Nat.mul_succ]; omega
theorem txts_small {r : List Int} (h : ∀ x ∈ r, 0 ≤ x ∧ x ≤ 1000000) : ∀ s ∈ mtxs r, s.size ≤ 21 := by
  intro s hs
  obtain ⟨x, hx, rfl⟩ := List.mem_map.1 hs
  have := h x hx
  exact fmtI_small (by omega) (by omega)
theorem txts_total {r : List Int} (h : ∀ x ∈ r, 0 ≤ x ∧ x ≤ 1000000) (hl : r.length ≤ 9) : (mtxs r).length + totalS (mtxs r) ≤ 198 := by
  have := totalS_le (txts_small h)
  rw [mtxs_len] at this ⊢
  omega
theorem joined_small {l : List ByteArray} {b : ByteArray} (hb : b.size ≤ 1) : (joined l b).size ≤ l.length + totalS l := by
  have h1 := jn_len l b l.length (Nat.le_refl _)
  rw [jn_all l b rfl] at h1
  unfold joined
  rw [str_size]
  rw [List.take_of_length_le (Nat.le_refl _)] at h1
  have : b.size * l.length ≤ 1 * l.length := Nat.mul_le_mul_right _ hb
  omega
def rowT (r : List Int) : ByteArray := joined (mtxs r) ⟨#[44]⟩
def rowsT (m : List (List Int)) : List ByteArray := m.map rowT
theorem rowsT_take_succ {m : List (List Int)} {j : Nat} {r : List Int} (h : m[j]? = some r) : rowsT (m.take (j + 1)) = rowsT (m.take j) ++ [rowT r] := by
  rw [take_snoc h]; simp [rowsT]
theorem rowsT_len (m : List (List Int)) : (rowsT m).length = m.length := by simp [rowsT]
theorem rowsT_total {m : List (List Int)} (h : isMat m = true) : (rowsT m).length + totalS (rowsT m) ≤ 2000 := by
  have hl := isMat_len h
  have key : ∀ s ∈ rowsT m, s.size ≤ 198 := fun s hs => by
    obtain ⟨r, hr, rfl⟩ := List.mem_map.1 hs
    obtain ⟨i, hi, e⟩ := List.getElem_of_mem hr
    have hrow : m[i]? = some r := by rw [List.getElem?_eq_getElem hi, e]
    have hrl := isMat_row h hrow
    have hx : ∀ x ∈ r, 0 ≤ x ∧ x ≤ 1000000 := fun x hx => by
      obtain ⟨j, hj, e⟩ := List.getElem_of_mem hx
      exact isMat_num h hrow (show r[j]? = some x by rw [List.getElem?_eq_getElem hj, e])
    exact Nat.le_trans (joined_small (Nat.le_refl 1)) (txts_total hx (by omega))
  have := totalS_le key
  rw [rowsT_len] at this ⊢
  omega
def matT (m : List (List Int)) : ByteArray := if isMat m then joined (rowsT m) ⟨#[47]⟩ else ByteArray.empty
set_option maxRecDepth 10000 in
set_option maxHeartbeats 400000 in
theorem iStrJoin (v : Value) (l : List ByteArray) (b : ByteArray) (w : World) (h : Strs w v l) (hl : l.length + totalS l ≤ 1048576) (hb : b.size ≤ 1048576) :
    Calls Tryz.prog 75 #[v, .string b] w fun e w' => e = .returned (.string (joined l b)) ∧ Below w.heap.size w w' := by
  obtain ⟨a, cap, rfl, hcap, hm, hc⟩ := h
  rw [strs_length] at hcap ⊢
  have hlen : (Lib.join (l.map bts) (bts b)).length ≤ 140737488355328 := by
    rw [← jn_all l b rfl]
    have := jn_small hl hb (Nat.le_refl _)
    omega
  by_cases h0 : l = []
  · subst h0
    refine (Tryz.strings_Join_none a cap b w).mono ?_
    rintro e w' ⟨rfl, rfl⟩
    exact ⟨rfl, Below.refl _ _⟩
  · have hpos : 0 < l.length := List.length_pos_iff.2 h0
    obtain ⟨bk, off, rfl, hc0⟩ := hc 0 (by rw [strs_length]; exact hpos)
    refine (Tryz.strings_Join bk off cap l b w (fun j x hj => ?_) (World.block_lt_of_cell? w _ hc0) (by omega) (by omega) hlen).mono ?_
    · have hj' : j < l.length := (List.getElem?_eq_some_iff.1 hj).1
      obtain ⟨bk', off', e1, hcell⟩ := hc j (by rw [strs_length]; exact hj')
      cases e1
      rw [hcell, strs_get]
      rw [List.getElem?_eq_getElem hj'] at hj
      rw [Option.some.inj hj]
    · rintro e w' ⟨rfl, hb2⟩
      exact ⟨rfl, hb2⟩
set_option maxRecDepth 10000 in
set_option maxHeartbeats 400000 in
theorem sNumbers (v : Value) (r : List Int) (sep : ByteArray) (w : World) (h : Ints w v r) (hx : ∀ x ∈ r, 0 ≤ x ∧ x ≤ 1000000) (hl : r.length ≤ 9) (hsep : sep.size ≤ 1) :
    Calls Tryz.prog 76 #[v, .string sep] w fun e w' => e = .returned (.string (joined (mtxs r) sep)) ∧ Below w.heap.size w w' := by
  obtain ⟨a, n, cap, rfl, HL, hn, HC⟩ := h.open
  have n9 : n ≤ 9 := by have := HL.out; omega
  have HT := Lib.hid (txts_total hx hl)
  have HX := Lib.hid hx; clear hx hl h
  go_enter Tryz.func76, Tryz.ntmps76
  go_wp2
  go_loopw [5, 6] (fun q i wr => ∃ j : Nat, j ≤ n ∧ i = .int .i64 j ∧ Own 9 w.heap.size wr q (strs (mtxs (r.take j))) ∧ Below w.heap.size w wr) (fun _ i _ => n - (intOf i).toNat)
  case atStart => exact ⟨0, Nat.zero_le _, rfl, Own.empty _ _, below_alloc _ _⟩
  case round =>
    obtain ⟨j, hj, rfl, hq, hbq⟩ := hrel
    have hsq := hbq.size
    by_cases hlt : j < n
    · obtain ⟨b, off, x, rfl, hc, HXj⟩ := HC.out j hlt
      have hc1 := cell_keep hbq hc
      obtain ⟨hx0, hx1⟩ := HX.out x (List.mem_of_getElem? HXj.out)
      have HS := Lib.hid (txts_take_succ HXj.out)
      have HLq : Hid ((mtxs (r.take j)).length ≤ 9) := Lib.hid (by rw [mtxs_len, List.length_take]; omega)
      obtain ⟨T, hT⟩ : ∃ T, fmtI x = T := ⟨_, rfl⟩
      have hC := Lib.hid (sFormatInt x wr (by omega) (by omega))
      rw [hT] at hC HS
      clear hT
      go_wp2_with fail
      refine hC.out.mono ?_
      rintro e w3 ⟨rfl, hb3⟩
      have b3 := hbq.trans (hb3.mono hsq)
      have hq3 := hq.keep hb3
      have hs3 := b3.size
      go_wp2_with (at_builtin; refine app1 39 9 16 (.string ByteArray.empty) Tryz.underlying39 Tryz.infoStr rfl hq3 (.string T) rfl ?h1 ?h2 hs3 rfl _ _ rfl rfl rfl (by simp) ?_)
      case h1 => rw [strs_length]; have := HLq.out; unfold maxLen; omega
      case h2 => rw [strs_length]; have := HLq.out; omega
      intro q' w4 hq4 hg _
      go_wp2
      go_roundw
      case rel => exact ⟨j + 1, by omega, by go_num, by rw [HS.out, strs_append]; exact hq4, b3.trans (hq3.below hg (Nat.le_refl _) hs3)⟩
      case measure => simp [intOf]; omega
    · have e : j = n := by omega
      subst e
      have HA : Hid (mtxs (r.take j) = mtxs r) := Lib.hid (by rw [List.take_of_length_le (by rw [HL.out]; exact Nat.le_refl _)])
      rw [HA.out] at hq
      have hJ := Lib.hid (sJoin _ (mtxs r) sep wr hq.row (by have := HT.out; omega) (by omega))
      obtain ⟨aq, cq, rfl⟩ := hq.form rfl
      go_wp2_with fail
      refine hJ.out.mono ?_
      rintro e w5 ⟨rfl, hb5⟩
      have b5 := hbq.trans (hb5.mono hsq)
      go_wp2
      go_ret
      exact ⟨rfl, b5⟩
set_option maxRecDepth 10000 in
set_option maxHeartbeats 400000 in
theorem iNumbers (v : Value) (r : List Int) (sep : ByteArray) (w : World) (h : Ints w v r) (hx : ∀ x ∈ r, 0 ≤ x ∧ x ≤ 1000000) (hl : r.length ≤ 9) (hsep : sep.size ≤ 1) (ht : Tb w) :
    Calls Tryz.prog 74 #[v, .string sep] w fun e w' => e = .returned (.string (joined (mtxs r) sep)) ∧ Below w.heap.size w w' := by
  obtain ⟨a, n, cap, rfl, HL, hn, HC⟩ := h.open
  have n9 : n ≤ 9 := by have := HL.out; omega
  have HT := Lib.hid (txts_total hx hl)
  have HX := Lib.hid hx; clear hx hl h
  go_enter Tryz.func74, Tryz.ntmps74
  go_wp2
  go_loopw [5, 7, 11] (fun q _ i wr => ∃ j : Nat, j ≤ n ∧ i = .int .i64 j ∧ Own 9 w.heap.size wr q (strs (mtxs (r.take j))) ∧ Below w.heap.size w wr) (fun _ _ i _ => n - (intOf i).toNat)
  case atStart => exact ⟨0, Nat.zero_le _, rfl, Own.empty _ _, below_alloc _ _⟩
  case round =>
    obtain ⟨j, hj, rfl, hq, hbq⟩ := hrel
    have hsq := hbq.size
    by_cases hlt : j < n
    · obtain ⟨b, off, x, rfl, hc, HXj⟩ := HC.out j hlt
      have hc1 := cell_keep hbq hc
      obtain ⟨hx0, hx1⟩ := HX.out x (List.mem_of_getElem? HXj.out)
      have HS := Lib.hid (txts_take_succ HXj.out)
      have HLq : Hid ((mtxs (r.take j)).length ≤ 9) := Lib.hid (by rw [mtxs_len, List.length_take]; omega)
      obtain ⟨T, hT⟩ : ∃ T, fmtI x = T := ⟨_, rfl⟩
      have hC := Lib.hid (iFormatInt x wr (by omega) (by omega) (ht.keep hbq))
      rw [hT] at hC HS
      clear hT
      go_wp2_with fail
      refine hC.out.mono ?_
      rintro e w3 ⟨rfl, hb3⟩
      have b3 := hbq.trans (hb3.mono hsq)
      have hq3 := hq.keep hb3
      have hs3 := b3.size
      go_wp2_with (at_builtin; refine app1 39 9 16 (.string ByteArray.empty) Tryz.underlying39 Tryz.infoStr rfl hq3 (.string T) rfl ?h1 ?h2 hs3 rfl _ _ rfl rfl rfl (by simp) ?_)
      case h1 => rw [strs_length]; have := HLq.out; unfold maxLen; omega
      case h2 => rw [strs_length]; have := HLq.out; omega
      intro q' w4 hq4 hg _
      go_wp2
      go_roundw
      case rel => exact ⟨j + 1, by omega, by go_num, by rw [HS.out, strs_append]; exact hq4, b3.trans (hq3.below hg (Nat.le_refl _) hs3)⟩
      case measure => simp [intOf]; omega
    · have e : j = n := by omega
      subst e
      have HA : Hid (mtxs (r.take j) = mtxs r) := Lib.hid (by rw [List.take_of_length_le (by rw [HL.out]; exact Nat.le_refl _)])
      rw [HA.out] at hq
      have hJ := Lib.hid (iStrJoin _ (mtxs r) sep wr hq.row (by have := HT.out; omega) (by omega))
      obtain ⟨aq, cq, rfl⟩ := hq.form rfl
      go_wp2_with fail
      refine hJ.out.mono ?_
      rintro e w5 ⟨rfl, hb5⟩
      have b5 := hbq.trans (hb5.mono hsq)
      go_wp2
      go_ret
      exact ⟨rfl, b5⟩
set_option maxRecDepth 10000 in
set_option maxHeartbeats 400000 in
theorem sMatrixText (v : Value) (m : List (List Int)) (w : World) (h : Mat w v m) :
    Calls Tryz.prog 26 #[v] w fun e w' => e = .returned (.string (matT m)) ∧ Below w.heap.size w w' := by
  have HM := Lib.hid h
  obtain ⟨a, n, cap, rfl, HL, hn, HC⟩ := h.open
  clear h
  cases hm : isMat m
  · have HI := Lib.hid hm
    have HR : Hid (matT m = ByteArray.empty) := Lib.hid (by unfold matT; rw [hm]; rfl)
    clear hm
    go_enter Tryz.func26, Tryz.ntmps26
    go_wp2_with fail
    refine (sIsMatrix _ m _ HM.out).mono ?_
    rintro e w2 ⟨rfl, rfl⟩
    rw [HI.out]
    go_wp2
    go_ret
    exact ⟨ret_str HR.out.symm, Below.refl _ _⟩
  have HT := Lib.hid (rowsT_total hm)
  have HI := Lib.hid hm
  have HR : Hid (matT m = joined (rowsT m) ⟨#[47]⟩) := Lib.hid (by unfold matT; rw [hm]; rfl)
  have n9 : n ≤ 9 := by have := HL.out; have := isMat_len hm; omega
  clear hm
  go_enter Tryz.func26, Tryz.ntmps26
  go_wp2_with fail
  refine (sIsMatrix _ m _ HM.out).mono ?_
  rintro e w2 ⟨rfl, rfl⟩
  rw [HI.out]
  go_wp2
  go_loopw [3, 4] (fun q i wr => ∃ j : Nat, j ≤ n ∧ i = .int .i64 j ∧ Own 9 w.heap.size wr q (strs (rowsT (m.take j))) ∧ Below w.heap.size w wr) (fun _ i _ => n - (intOf i).toNat)
  case atStart => exact ⟨0, Nat.zero_le _, rfl, Own.empty _ _, below_alloc _ _⟩
  case round =>
    obtain ⟨j, hj, rfl, hq, hbq⟩ := hrel
    have hsq := hbq.size
    by_cases hlt : j < n
    · obtain ⟨b, off, u, r, rfl, hc, HXj, hu⟩ := HC.out j hlt
      have hc1 := cell_keep hbq hc
      have hx : ∀ x ∈ r, 0 ≤ x ∧ x ≤ 1000000 := fun x hx => by
        obtain ⟨j', hj', e⟩ := List.getElem_of_mem hx
        exact isMat_num HI.out HXj.out (show r[j']? = some x by rw [List.getElem?_eq_getElem hj', e])
      have hrl : r.length ≤ 9 := by have := isMat_row HI.out HXj.out; have := HL.out; omega
      have HS := Lib.hid (rowsT_take_succ HXj.out)
      have HLq : Hid ((rowsT (m.take j)).length ≤ 9) := Lib.hid (by rw [rowsT_len, List.length_take]; omega)
      obtain ⟨T, hT⟩ : ∃ T, rowT r = T := ⟨_, rfl⟩
      have hT2 : joined (mtxs r) ⟨#[44]⟩ = T := hT
      have hC := Lib.hid (sNumbers u r ⟨#[44]⟩ wr (hu.keep hbq) hx (by omega) (Nat.le_refl 1))
      rw [hT2] at hC
      rw [hT] at HS
      clear hT hT2 hx hrl
      obtain ⟨a', n', cap', rfl, -⟩ := hu.open
      go_wp2_with fail
      refine hC.out.mono ?_
      rintro e w3 ⟨rfl, hb3⟩
      have b3 := hbq.trans (hb3.mono hsq)
      have hq3 := hq.keep hb3
      have hs3 := b3.size
      go_wp2_with (at_builtin; refine app1 39 9 16 (.string ByteArray.empty) Tryz.underlying39 Tryz.infoStr rfl hq3 (.string T) rfl ?h1 ?h2 hs3 rfl _ _ rfl rfl rfl (by simp) ?_)
      case h1 => rw [strs_length]; have := HLq.out; unfold maxLen; omega
      case h2 => rw [strs_length]; have := HLq.out; omega
      intro q' w4 hq4 hg _
      go_wp2
      go_roundw
      case rel => exact ⟨j + 1, by omega, by go_num, by rw [HS.out, strs_append]; exact hq4, b3.trans (hq3.below hg (Nat.le_refl _) hs3)⟩
      case measure => simp [intOf]; omega
    · have e : j = n := by omega
      subst e
      have HA : Hid (rowsT (m.take j) = rowsT m) := Lib.hid (by rw [List.take_of_length_le (by rw [HL.out]; exact Nat.le_refl _)])
      rw [HA.out] at hq
      have hJ := Lib.hid (sJoin _ (rowsT m) ⟨#[47]⟩ wr hq.row (by have := HT.out; omega) (show 1 ≤ 1048576 by omega))
      rw [← HR.out] at hJ
      obtain ⟨aq, cq, rfl⟩ := hq.form rfl
      go_wp2_with fail
      refine hJ.out.mono ?_
      rintro e w5 ⟨rfl, hb5⟩
      have b5 := hbq.trans (hb5.mono hsq)
      go_wp2
      go_ret
      exact ⟨rfl, b5⟩
set_option maxRecDepth 10000 in
set_option maxHeartbeats 400000 in
theorem iMatrixText (v : Value) (m : List (List Int)) (w : World) (h : Mat w v m) (ht : Tb w) :
    Calls Tryz.prog 25 #[v] w fun e w' => e = .returned (.string (matT m)) ∧ Below w.heap.size w w' := by
  have HM := Lib.hid h
  obtain ⟨a, n, cap, rfl, HL, hn, HC⟩ := h.open
  clear h
  cases hm : isMat m
  · have HI := Lib.hid hm
    have HR : Hid (matT m = ByteArray.empty) := Lib.hid (by unfold matT; rw [hm]; rfl)
    clear hm
    go_enter Tryz.func25, Tryz.ntmps25
    go_wp2_with fail
    refine (iIsMatrix _ m _ HM.out).mono ?_
    rintro e w2 ⟨rfl, rfl⟩
    rw [HI.out]
    go_wp2
    go_ret
    exact ⟨ret_str HR.out.symm, Below.refl _ _⟩
  have HT := Lib.hid (rowsT_total hm)
  have HI := Lib.hid hm
  have HR : Hid (matT m = joined (rowsT m) ⟨#[47]⟩) := Lib.hid (by unfold matT; rw [hm]; rfl)
  have n9 : n ≤ 9 := by have := HL.out; have := isMat_len hm; omega
  clear hm
  go_enter Tryz.func25, Tryz.ntmps25
  go_wp2_with fail
  refine (iIsMatrix _ m _ HM.out).mono ?_
  rintro e w2 ⟨rfl, rfl⟩
  rw [HI.out]
  go_wp2
  go_loopw [3, 5, 12] (fun q _ i wr => ∃ j : Nat, j ≤ n ∧ i = .int .i64 j ∧ Own 9 w.heap.size wr q (strs (rowsT (m.take j))) ∧ Below w.heap.size w wr) (fun _ _ i _ => n - (intOf i).toNat)
  case atStart => exact ⟨0, Nat.zero_le _, rfl, Own.empty _ _, below_alloc _ _⟩
  case round =>
    obtain ⟨j, hj, rfl, hq, hbq⟩ := hrel
    have hsq := hbq.size
    by_cases hlt : j < n
    · obtain ⟨b, off, u, r, rfl, hc, HXj, hu⟩ := HC.out j hlt
      have hc1 := cell_keep hbq hc
      have hx : ∀ x ∈ r, 0 ≤ x ∧ x ≤ 1000000 := fun x hx => by
        obtain ⟨j', hj', e⟩ := List.getElem_of_mem hx
        exact isMat_num HI.out HXj.out (show r[j']? = some x by rw [List.getElem?_eq_getElem hj', e])
      have hrl : r.length ≤ 9 := by have := isMat_row HI.out HXj.out; have := HL.out; omega
      have HS := Lib.hid (rowsT_take_succ HXj.out)
      have HLq : Hid ((rowsT (m.take j)).length ≤ 9) := Lib.hid (by rw [rowsT_len, List.length_take]; omega)
      obtain ⟨T, hT⟩ : ∃ T, rowT r = T := ⟨_, rfl⟩
      have hT2 : joined (mtxs r) ⟨#[44]⟩ = T := hT
      have hC := Lib.hid (iNumbers u r ⟨#[44]⟩ wr (hu.keep hbq) hx (by omega) (Nat.le_refl 1) (ht.keep hbq))
      rw [hT2] at hC
      rw [hT] at HS
      clear hT hT2 hx hrl
      obtain ⟨a', n', cap', rfl, -⟩ := hu.open
      go_wp2_with fail
      refine hC.out.mono ?_
      rintro e w3 ⟨rfl, hb3⟩
      have b3 := hbq.trans (hb3.mono hsq)
      have hq3 := hq.keep hb3
      have hs3 := b3.size
      go_wp2_with (at_builtin; refine app1 39 9 16 (.string ByteArray.empty) Tryz.underlying39 Tryz.infoStr rfl hq3 (.string T) rfl ?h1 ?h2 hs3 rfl _ _ rfl rfl rfl (by simp) ?_)
      case h1 => rw [strs_length]; have := HLq.out; unfold maxLen; omega
      case h2 => rw [strs_length]; have := HLq.out; omega
      intro q' w4 hq4 hg _
      go_wp2
      go_roundw
      case rel => exact ⟨j + 1, by omega, by go_num, by rw [HS.out, strs_append]; exact hq4, b3.trans (hq3.below hg (Nat.le_refl _) hs3)⟩
      case measure => simp [intOf]; omega
    · have e : j = n := by omega
      subst e
      have HA : Hid (rowsT (m.take j) = rowsT m) := Lib.hid (by rw [List.take_of_length_le (by rw [HL.out]; exact Nat.le_refl _)])
      rw [HA.out] at hq
      have hJ := Lib.hid (iStrJoin _ (rowsT m) ⟨#[47]⟩ wr hq.row (by have := HT.out; omega) (show 1 ≤ 1048576 by omega))
      rw [← HR.out] at hJ
      obtain ⟨aq, cq, rfl⟩ := hq.form rfl
      go_wp2_with fail
      refine hJ.out.mono ?_
      rintro e w5 ⟨rfl, hb5⟩
      have b5 := hbq.trans (hb5.mono hsq)
      go_wp2
      go_ret
      exact ⟨rfl, b5⟩
end Go.Proofs.YtkohadoicebojaaGreatDoor
