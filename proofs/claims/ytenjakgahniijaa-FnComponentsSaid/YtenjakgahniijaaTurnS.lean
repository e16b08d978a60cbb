/- Contract of the reference's TurnsOf. No statement is proved here. -/
import Derived.Test.YtenjakgahniijaaTurnM
import Derived.Test.YtenjakgahniijaaOwnI
namespace Go.Proofs.Ytenjakgahniijaa
open Go.RowKit Go.Deep
theorem knw_none (T : Nat → Int) (n : Nat) : rowF n (knw T fun _ => false) = rowF n fun _ => -1 := rowF_congr fun j _ => by simp [knw]
theorem knw_all {T : Nat → Int} {L : Nat → Bool} {n : Nat} (h : ∀ j, j < n → L j = true) : rowF n (knw T L) = rowF n T := rowF_congr fun j hj => by simp [knw, h j hj]
theorem knw0_all {T : Nat → Int} {L : Nat → Bool} {n : Nat} (h : ∀ j, j < n → L j = true) : rowF n (knw0 T L) = rowF n T := rowF_congr fun j hj => by simp [knw0, h j hj]
theorem knw_t {T : Nat → Int} {L : Nat → Bool} {j : Nat} (h : L j = true) : knw T L j = T j := if_pos h
theorem knw_f {T : Nat → Int} {L : Nat → Bool} {j : Nat} (h : L j = false) : knw T L j = -1 := if_neg (by simp [h])
theorem knw0_t {T : Nat → Int} {L : Nat → Bool} {j : Nat} (h : L j = true) : knw0 T L j = T j := if_pos h
theorem addB_old {L : Nat → Bool} {b j : Nat} (h : L j = true) : addB L b j = true := by simp [addB, h]
theorem addB_new (L : Nat → Bool) (b : Nat) : addB L b b = true := by simp [addB]
/-- What a sweep has found, up to row i and column j. -/
structure Swept (m : List (List Int)) (n : Nat) (L : Nat → Bool) (i j : Nat) (B : Nat → Bool) : Prop where
  old : ∀ a, L a = true → B a = true
  rows : ∀ a b, a < i → b < n → L a = true → 0 < ent m a b → B b = true
  cols : ∀ b, b < j → L i = true → 0 < ent m i b → B b = true
theorem swept_zero (m : List (List Int)) (n : Nat) (L : Nat → Bool) : Swept m n L 0 0 L := ⟨fun _ h => h, fun a b h => by omega, fun b h => by omega⟩
theorem swept_row {m : List (List Int)} {n : Nat} {L B : Nat → Bool} {i : Nat} (h : Swept m n L i n B) : Swept m n L (i + 1) 0 B := by
  refine ⟨h.old, fun a b h1 h2 h3 h4 => ?_, fun b hb => by omega⟩
  by_cases e : a = i
  · subst e; exact h.cols b h2 h3 h4
  · exact h.rows a b (by omega) h2 h3 h4
theorem swept_skip {m : List (List Int)} {n : Nat} {L B : Nat → Bool} {i j : Nat} (h : Swept m n L i j B) (hx : B i = false ∨ B j = true ∨ ¬ 0 < ent m i j) : Swept m n L i (j + 1) B := by
  refine ⟨h.old, h.rows, fun b h1 h2 h3 => ?_⟩
  by_cases e : b = j
  · subst e
    rcases hx with hx | hx | hx
    · have := h.old i h2; rw [hx] at this; cases this
    · exact hx
    · exact absurd h3 hx
  · exact h.cols b (by omega) h2 h3
theorem swept_add {m : List (List Int)} {n : Nat} {L B : Nat → Bool} {i j : Nat} (h : Swept m n L i j B) : Swept m n L i (j + 1) (addB B j) := by
  refine ⟨fun a ha => addB_old (h.old a ha), fun a b h1 h2 h3 h4 => addB_old (h.rows a b h1 h2 h3 h4), fun b h1 h2 h3 => ?_⟩
  by_cases e : b = j
  · subst e; exact addB_new _ _
  · exact addB_old (h.cols b (by omega) h2 h3)
theorem swept_all {m : List (List Int)} {n t : Nat} {p : Int} (I : Irred m n p) {L B : Nat → Bool} (hf : Found n t L) (h : Swept m n L n 0 B) : Found n (t + 1) B :=
  found_next I hf h.old fun a b ha hb h3 h4 => h.rows a b ha hb h3 h4
set_option maxRecDepth 10000 in
set_option maxHeartbeats 800000 in
theorem sTurnsOf (v : Value) (m : List (List Int)) (w : World) (h : Mat w v m) :
    Calls Try.prog 38 #[v] w fun e w' => ∃ v', e = .returned v' ∧ OwnI 3 w.heap.size w' v' (turnsOf m) ∧ Below w.heap.size w w' := by
  have hwa := below_alloc w (.cells #[] 3)
  have how := Own.empty 3 w
  cases hi : irr m
  · have HO := Lib.hid (turnsOf_no hi)
    have HI := Lib.hid hi; clear hi
    go_enter Try.func38, Try.ntmps38
    go_wp2_with fail
    refine (sIsIrreducible _ m _ (h.keep hwa)).mono ?_
    rintro e w1 ⟨rfl, hb⟩
    rw [HI.out]
    go_wp2
    go_ret
    exact ⟨_, rfl, by rw [HO.out]; exact how.keep hb, hwa.trans (hb.mono (by simp))⟩
  obtain ⟨av, n, cv, rfl, HL, hn, HC⟩ := h.open
  have hm : isMat m = true := irr_mat hi
  have n9 : n ≤ 9 := by have := (isMat_len hm).2; have := HL.out; omega
  have n1 : 0 < n := by have := (isMat_len hm).1; have := HL.out; omega
  have hI := irred hi HL.out
  have p0 := hI.p0
  have pn := hI.pn
  have HO := Lib.hid (turnsOf_yes hi HL.out)
  have HI := Lib.hid hi; clear hi
  have HM := Lib.hid hm; clear hm
  have HT0 := Lib.hid (turn_zero hI)
  have HTB := Lib.hid fun j => turn_bd hI j
  have HIR := Lib.hid hI; clear hI
  have HTS : Hid (∀ i j, i < n → j < n → 0 < ent m i j → (trn m n (periodOf m) i + 1) % periodOf m = trn m n (periodOf m) j) := Lib.hid fun i j h1 h2 h3 => turn_step HIR.out h1 h2 h3
  obtain ⟨T, hT⟩ : ∃ T, T = trn m n (periodOf m) := ⟨_, rfl⟩
  rw [← hT] at HT0 HTS HO
  have HTB2 : Hid (∀ j, 0 ≤ T j ∧ T j < periodOf m) := Lib.hid fun j => by rw [hT]; exact HTB.out j
  clear HTB hT
  obtain ⟨p, hp⟩ : ∃ p, p = periodOf m := ⟨_, rfl⟩
  rw [← hp] at p0 pn HTS HTB2
  have HP := Lib.hid hp; clear hp
  go_enter Try.func38, Try.ntmps38
  go_wp2_with fail
  refine (sIsIrreducible _ m _ (h.keep hwa)).mono ?_
  rintro e w1 ⟨rfl, hb1⟩
  rw [HI.out]
  have hwb := hwa.trans (hb1.mono (by simp))
  go_wp2_with fail
  refine (sPeriodOf _ m _ (h.keep hwb)).mono ?_
  rintro e w2 ⟨rfl, hb2⟩
  rw [← HP.out]
  have ho2 := (how.keep hb1).keep hb2
  have hwc := hwb.trans (hb2.mono hwb.size)
  clear how hb1 hb2 hwa hwb
  go_wp2
  go_loopw [3, 5] (fun q i wr => ∃ k : Nat, k ≤ n ∧ i = .int .i64 k ∧ Own 3 w.heap.size wr q (ints (rowF k fun _ => -1)) ∧ Below w.heap.size w wr) (fun _ i _ => n - (intOf i).toNat)
  case atStart => exact ⟨0, Nat.zero_le _, rfl, ho2, hwc⟩
  case round =>
    clear ho2 hwc
    obtain ⟨k, hk, rfl, hq, hbq⟩ := hrel
    have hsq := hbq.size
    by_cases hlt : k < n
    · have HLq := Lib.hid (rowF_length k fun _ => (-1 : Int))
      go_wp2_with (at_builtin; refine app1 28 3 8 (.int .i64 0) Try.underlying28 Try.infoInt rfl hq (.int .i64 (-1)) rfl ?h1 ?h2 hsq rfl _ _ rfl rfl rfl (by simp) ?_)
      case h1 => rw [ints_length, HLq.out]; unfold maxLen; omega
      case h2 => rw [ints_length, HLq.out]; omega
      intro q' w3 hq1 hg _
      go_wp2
      go_roundw
      case rel => exact ⟨k + 1, by omega, by go_num, by rw [rowF_succ]; simp only [ints, List.map_append] at hq1 ⊢; exact hq1, hbq.trans (hq.below hg (Nat.le_refl _) hsq)⟩
      case measure => simp [intOf]; omega
    · have e : k = n := by omega
      subst e
      obtain ⟨g0, c0, hv, hB0, hc0, hf0, hst0⟩ := hq.at (show (ints (rowF k fun _ => (-1 : Int)))[0]? = some (.int .i64 (-1)) by rw [ints_get?, rowF_get n1]; rfl)
      rw [ints_length, rowF_length] at hv
      subst hv
      have hq2 := (hst0 (.int .i64 0)).1
      have HQ2 : Hid ((ints (rowF k fun _ => (-1 : Int))).set 0 (.int .i64 0) = ints (rowF k (knw T (addB (fun _ => false) 0)))) := Lib.hid (by rw [← knw_none T, ← knw_set, HT0.out])
      rw [HQ2.out] at hq2
      have hb3 := hbq.setCell (p := ⟨g0, 0, none⟩) hB0 (.int .i64 0)
      clear hst0 HQ2
      go_wp2
      go_loopw [6] (fun i wr => ∃ (t : Nat) (L : Nat → Bool), t ≤ k ∧ i = .int .i64 t ∧ Own 3 w.heap.size wr (.slice (some ⟨g0, 0, none⟩) k c0) (ints (rowF k (knw T L))) ∧ Hid (Found k t L) ∧ Below w.heap.size w wr) (fun i _ => k - (intOf i).toNat)
      case atStart => exact ⟨0, _, Nat.zero_le _, rfl, hq2, Lib.hid (found_start n1 (addB_new _ _)), hb3⟩
      case round =>
        clear hq2 hb3 hq hbq hsq
        obtain ⟨t, L, ht, rfl, hq, HF, hbq⟩ := hrel
        by_cases hltt : t < k
        · go_wp2
          go_loopw [7] (fun i wr => ∃ (a : Nat) (B : Nat → Bool), a ≤ k ∧ i = .int .i64 a ∧ Own 3 w.heap.size wr (.slice (some ⟨g0, 0, none⟩) k c0) (ints (rowF k (knw T B))) ∧ Hid (Swept m k L a 0 B) ∧ Below w.heap.size w wr) (fun i _ => k - (intOf i).toNat)
          case atStart => exact ⟨0, L, Nat.zero_le _, rfl, hq, Lib.hid (swept_zero m k L), hbq⟩
          case round =>
            clear hq hbq
            obtain ⟨a, B, ha, rfl, hq, HS, hbq⟩ := hrel
            by_cases hlta : a < k
            · obtain ⟨bo, off, u, r, rfl, hc, HX, hu⟩ := HC.out a hlta
              obtain ⟨a', n2, cap', rfl, HL', hn', HC'⟩ := hu.open
              have hnn : n2 = k := by have := isMat_row HM.out HX.out; have := HL.out; have := HL'.out; omega
              subst hnn
              clear hu
              go_wp2
              go_loopw [8] (fun i wr => ∃ (b : Nat) (B : Nat → Bool), b ≤ n2 ∧ i = .int .i64 b ∧ Own 3 w.heap.size wr (.slice (some ⟨g0, 0, none⟩) n2 c0) (ints (rowF n2 (knw T B))) ∧ Hid (Swept m n2 L a b B) ∧ Below w.heap.size w wr) (fun i _ => n2 - (intOf i).toNat)
              case atStart => exact ⟨0, B, Nat.zero_le _, rfl, hq, HS, hbq⟩
              case round =>
                clear hq hbq
                obtain ⟨b, B', hb, rfl, hq, HS', hbq⟩ := hrel
                by_cases hltb : b < n2
                · obtain ⟨g1, c1, hv, -, hci, -, -⟩ := hq.at (show (ints (rowF n2 (knw T B')))[a]? = some (.int .i64 (knw T B' a)) by rw [ints_get?, rowF_get hlta]; rfl)
                  rw [ints_length, rowF_length] at hv
                  obtain ⟨rfl, -⟩ := slice_inj hv
                  clear hv
                  cases hBa : B' a
                  · rw [knw_f hBa] at hci
                    have HS2 := Lib.hid (swept_skip HS'.out (.inl hBa)); clear hBa
                    go_wp2
                    go_roundw
                    case rel => exact ⟨b + 1, B', by omega, by go_num, hq, HS2, hbq⟩
                    case measure => simp [intOf]; omega
                  · rw [knw_t hBa] at hci
                    have tb := HTB2.out a
                    have HE : 0 < ent m a b → Hid ((T a + 1) % p = T b) := fun h => Lib.hid (HTS.out a b hlta hltb h)
                    obtain ⟨x, hx⟩ : ∃ x, x = T a := ⟨_, rfl⟩
                    rw [← hx] at hci tb HE
                    clear hx hBa
                    have x0 := tb.1
                    have x1 := tb.2
                    clear tb
                    obtain ⟨g2, c2, hv, -, hcj, hfj, hstj⟩ := hq.at (show (ints (rowF n2 (knw T B')))[b]? = some (.int .i64 (knw T B' b)) by rw [ints_get?, rowF_get hltb]; rfl)
                    rw [ints_length, rowF_length] at hv
                    obtain ⟨rfl, -⟩ := slice_inj hv
                    clear hv
                    cases hBb : B' b
                    · rw [knw_f hBb] at hcj
                      clear hBb
                      obtain ⟨q1, off1, y, rfl, hc', HX'⟩ := HC'.out b hltb
                      have hc1 := cell_keep hbq hc
                      have hc1' := cell_keep hbq hc'
                      have hy := ent_of HX.out HX'.out
                      rw [hy] at HE
                      have HY := Lib.hid hy; clear hy
                      by_cases hy0 : 0 < y
                      · have HE2 := HE hy0
                        have HQ := Lib.hid (knw_set T B' n2 b)
                        have hq3 := (hstj (.int .i64 ((x + 1) % p))).1
                        rw [show Value.int .i64 ((x + 1) % p) = Value.int .i64 (T b) by rw [HE2.out], HQ.out, show Value.int .i64 (T b) = Value.int .i64 ((x + 1) % p) by rw [HE2.out]] at hq3
                        have HS2 := Lib.hid (swept_add HS'.out)
                        have hb4 := hbq.setCell (p := ⟨g0, b, none⟩) hB0 (.int .i64 ((x + 1) % p))
                        clear HE hstj
                        go_wp2
                        go_roundw
                        case rel => exact ⟨b + 1, _, by omega, by go_num, hq3, HS2, hb4⟩
                        case measure => simp [intOf]; omega
                      · have HS2 := Lib.hid (swept_skip HS'.out (.inr (.inr (by rw [HY.out]; exact hy0))))
                        clear HE hstj
                        go_wp2
                        go_roundw
                        case rel => exact ⟨b + 1, B', by omega, by go_num, hq, HS2, hbq⟩
                        case measure => simp [intOf]; omega
                    · rw [knw_t hBb] at hcj
                      have HS2 := Lib.hid (swept_skip HS'.out (.inr (.inl hBb)))
                      have tb := (HTB2.out b).1
                      obtain ⟨y, hy⟩ : ∃ y, y = T b := ⟨_, rfl⟩
                      rw [← hy] at hcj tb
                      clear hy hBb HE hstj
                      go_wp2
                      go_roundw
                      case rel => exact ⟨b + 1, B', by omega, by go_num, hq, HS2, hbq⟩
                      case measure => simp [intOf]; omega
                · have e : b = n2 := by omega
                  subst e
                  have HS2 := Lib.hid (swept_row HS'.out)
                  go_wp2
                  go_roundw
                  case rel => exact ⟨a + 1, B', by omega, by go_num, hq, HS2, hbq⟩
                  case measure => simp [intOf]; omega
            · have e : a = k := by omega
              subst e
              have HF2 := Lib.hid (swept_all HIR.out HF.out HS.out)
              go_wp2
              go_roundw
              case rel => exact ⟨t + 1, B, by omega, by go_num, hq, HF2, hbq⟩
              case measure => simp [intOf]; omega
        · have e : t = k := by omega
          subst e
          have HA := Lib.hid (knw_all (T := T) (found_all HF.out))
          go_wp2
          go_ret
          exact ⟨_, rfl, by rw [HO.out, ← HA.out]; exact hq, hbq⟩
end Go.Proofs.Ytenjakgahniijaa
