/- ParseMatrix, the reference's. No statement is proved here. -/
import Derived.Test.YtkohadoicebojaaGreatDoorParseI
namespace Go.Proofs.YtkohadoicebojaaGreatDoor
open Go.RowKit Go.Deep
def inW (r : List Int) : Prop := ∀ x ∈ r, -999999999999 ≤ x ∧ x ≤ 999999999999
theorem inM.w {r : List Int} (h : inM r) : inW r := fun x hx => by have := h x hx; omega
theorem txtsW_inj : ∀ (r r' : List Int), inW r → inW r' → txts r = txts r' → r = r' := by
  intro r
  induction r with
  | nil => intro r' _ _ h; cases r' with
           | nil => rfl
           | cons a r' => simp [txts] at h
  | cons a r ih =>
    intro r' h1 h2 h
    cases r' with
    | nil => simp [txts] at h
    | cons a' r' =>
      have e1 : fmtI a = fmtI a' := by simp [txts] at h; exact h.1
      have e2 : txts r = txts r' := by simp [txts] at h ⊢; exact h.2
      have b1 := h1 a (List.mem_cons_self ..)
      have b2 := h2 a' (List.mem_cons_self ..)
      have f1 := fmtI_atoi (n := a) (by omega) (by omega) e1
      have f2 := fmtI_atoi (n := a') (by omega) (by omega) rfl
      rw [f1] at f2
      injection f2 with f2
      rw [f2, ih r' (fun x hx => h1 x (List.mem_cons_of_mem _ hx)) (fun x hx => h2 x (List.mem_cons_of_mem _ hx)) e2]
theorem matW_inj : ∀ (m m' : List (List Int)), (∀ r ∈ m, inW r) → (∀ r ∈ m', inW r) → m.map txts = m'.map txts → m = m' := by
  intro m
  induction m with
  | nil => intro m' _ _ h; cases m' with
           | nil => rfl
           | cons a r' => simp at h
  | cons a m ih =>
    intro m' h1 h2 h
    cases m' with
    | nil => simp at h
    | cons a' m' =>
      simp at h
      rw [txtsW_inj a a' (h1 a (List.mem_cons_self ..)) (h2 a' (List.mem_cons_self ..)) h.1, ih m' (fun x hx => h1 x (List.mem_cons_of_mem _ hx)) (fun x hx => h2 x (List.mem_cons_of_mem _ hx)) (by simpa using h.2)]
theorem matW_no {s : ByteArray} {m : List (List Int)} (h : rowsP s = m.map txts) (hi : ∀ r ∈ m, inW r) (hm : isMat m = false) : MatR s [] false :=
  .inr ⟨rfl, rfl, fun m' h1 h2 => by
    have e := matW_inj m m' hi (fun r hr => (isMat_in h1 r hr).w) (h.symm.trans h2)
    subst e
    rw [hm] at h1
    cases h1⟩
theorem rowW_bad {s t : ByteArray} {j : Nat} {n : Int} (ht : (splL s 44)[j]? = some t) (h : Rd (-999999999999) 999999999999 t n false) : RowR s [] false :=
  .inr ⟨rfl, fun r' hr h2 => by
    rw [h2] at ht
    have hx : (txts r')[j]? = r'[j]?.map fmtI := by simp [txts]
    rw [hx] at ht
    obtain ⟨x, hx1, hx2⟩ := Option.map_eq_some_iff.1 ht
    have hb := hr x (List.mem_of_getElem? hx1)
    rcases h with ⟨h3, _⟩ | ⟨_, _, h3⟩
    · cases h3
    · exact h3 x (by omega) (by omega) hx2⟩
set_option maxRecDepth 10000 in
set_option maxHeartbeats 800000 in
theorem sParseMatrix (s : ByteArray) (w : World) (hs : s.size ≤ 1048576) :
    Calls Tryz.prog 14 #[.string s] w (MatE s w) := by
  have hlen := splL_small s 47 hs
  have hE := OwnMat.empty 62 3 w
  have hEb := below_alloc w (.cells #[] 62)
  have hSp : Hid (Calls Tryz.prog 65 #[.string s, .int .u8 47] (w.alloc (.cells #[] 62)) _) := Lib.hid (sSplitByte s 47 (w.alloc (.cells #[] 62)) hs)
  have HP : Hid (∀ p ∈ splL s 47, p.size ≤ 1048576) := Lib.hid fun p hp => Nat.le_trans (part_size hp) hs
  have HB : Hid (∀ j p i t n, (splL s 47)[j]? = some p → (splL p 44)[i]? = some t → Rd (-999999999999) 999999999999 t n false → MatR s [] false) := Lib.hid fun j p i t n h1 h2 h3 => matR_bad h1 (rowW_bad h2 h3)
  have HG : Hid (∀ m, (splL s 47).map (fun p => splL p 44) = m.map txts → (∀ r ∈ m, inW r) → MatR s (if isMat m then m else []) (isMat m)) := Lib.hid fun m h1 h2 => by
    cases h : isMat m
    · exact matW_no h1 h2 h
    · exact .inl ⟨rfl, h1, h⟩
  obtain ⟨L, hL⟩ : ∃ L, splL s 47 = L := ⟨_, rfl⟩
  rw [hL] at hSp HP HB HG hlen
  clear hL
  obtain ⟨n, hn⟩ : ∃ n, L.length = n := ⟨_, rfl⟩
  go_enter Tryz.func14, Tryz.ntmps14
  go_wp2_with fail
  refine hSp.out.mono ?_
  rintro e w1 ⟨vp, rfl, (hop : OwnS _ _ _ _ _), hb1⟩
  have b1 := hEb.trans (hb1.mono hEb.size)
  have hq0 := hE.keep hb1
  have hz0 : (w.alloc (.cells #[] 62)).heap.size = w.heap.size + 1 := by simp
  rw [hz0] at hop
  have hopH := OwnS.toH hop
  have hz1 := hb1.size
  rw [hz0] at hz1
  obtain ⟨ap, cp, rfl⟩ := Own.form hop (show (strs L).length = n by rw [strs_length, hn])
  rw [hn] at hlen
  have hO0 : Out (w.heap.size + 1) w1.heap.size (.slice (some ⟨w.heap.size, 0, none⟩) 0 0) := fun k hk => by
    have e : w.heap.size = k := by simpa [Value.ownBlock] using hk
    exact .inl (by omega)
  clear hE hEb hSp hop hb1 hz0
  go_wp2
  go_loopw [4, 6] (fun q i wr => ∃ (j : Nat) (m : List (List Int)), j ≤ n ∧ i = .int .i64 j ∧ OwnMat 62 3 w.heap.size wr q m ∧ Hid ((L.take j).map (fun p => splL p 44) = m.map txts ∧ ∀ r ∈ m, inW r) ∧ Below w.heap.size w wr ∧ w1.heap.size ≤ wr.heap.size ∧ OwnSH 9 (w.heap.size + 1) w1.heap.size wr (.slice ap n cp) L ∧ Out (w.heap.size + 1) w1.heap.size q) (fun _ i _ => n - (intOf i).toNat)
  case atStart => exact ⟨0, [], Nat.zero_le _, rfl, hq0, Lib.hid ⟨rfl, fun x hx => by cases hx⟩, b1, Nat.le_refl _, hopH, hO0⟩
  case round =>
    clear hq0 hopH hO0 b1
    obtain ⟨j, m, hj, rfl, hq, HT, bq, hw1, hop, hO⟩ := hrel
    have hsq := bq.size
    by_cases hlt : j < n
    · obtain ⟨a9, n9, c9, e9, HL9, _, HC9⟩ := hop.strs.open
      simp only [Value.slice.injEq] at e9
      obtain ⟨e91, e92, -⟩ := e9
      obtain ⟨bk, off, x, e93, hc1, HX⟩ := HC9.out j (by omega)
      obtain rfl : ap = some ⟨bk, off, none⟩ := e91.trans e93
      clear e91 e92 e93 HC9 HL9
      have hxs := HP.out x (List.mem_of_getElem? HX.out)
      have hxl := splL_small x 44 hxs
      have hrE := Own.empty 3 wr
      have hrEb := below_alloc wr (.cells #[] 3)
      have hc2 := cell_keep hrEb hc1
      have hSp : Hid (Calls Tryz.prog 65 #[.string x, .int .u8 44] (wr.alloc (.cells #[] 3)) _) := Lib.hid (sSplitByte x 44 (wr.alloc (.cells #[] 3)) hxs)
      have HP2 : Hid (∀ p ∈ splL x 44, p.size ≤ 1048576) := Lib.hid fun p hp => Nat.le_trans (part_size hp) hxs
      have HB2 : Hid (∀ i t n, (splL x 44)[i]? = some t → Rd (-999999999999) 999999999999 t n false → MatR s [] false) := Lib.hid fun i t n h2 h3 => HB.out j x i t n HX.out h2 h3
      have HTX : Hid (∀ r, splL x 44 = txts r → inW r → (L.take (j + 1)).map (fun p => splL p 44) = (m ++ [r]).map txts ∧ ∀ z ∈ m ++ [r], inW z) := Lib.hid fun r h1 h2 => ⟨by rw [take_snoc HX.out, List.map_append, HT.out.1, List.map_append]; simp [h1], fun z hz => by
          rcases List.mem_append.1 hz with hz | hz
          · exact HT.out.2 z hz
          · rw [List.mem_singleton.1 hz]; exact h2⟩
      have hml : Hid (m.length = j) := Lib.hid (by have := congrArg List.length HT.out.1; rw [List.length_map, List.length_map, List.length_take] at this; omega)
      obtain ⟨L2, hL2⟩ : ∃ L2, splL x 44 = L2 := ⟨_, rfl⟩
      rw [hL2] at hSp HP2 HB2 HTX hxl
      clear hL2
      obtain ⟨n2, hn2⟩ : ∃ n2, L2.length = n2 := ⟨_, rfl⟩
      go_wp2_with fail
      refine hSp.out.mono ?_
      rintro e w3 ⟨vp2, rfl, (hop2 : OwnS _ _ _ _ _), hb3⟩
      have b3 := hrEb.trans (hb3.mono hrEb.size)
      have hr0 := hrE.keep hb3
      have hz0 : (wr.alloc (.cells #[] 3)).heap.size = wr.heap.size + 1 := by simp
      rw [hz0] at hop2
      have hop2H := OwnS.toH hop2
      have hz3 := hb3.size
      rw [hz0] at hz3
      obtain ⟨ap2, cp2, rfl⟩ := Own.form hop2 (show (strs L2).length = n2 by rw [strs_length, hn2])
      rw [hn2] at hxl
      have hO2 : Out (wr.heap.size + 1) w3.heap.size (.slice (some ⟨wr.heap.size, 0, none⟩) 0 0) := fun k hk => by
        have e : wr.heap.size = k := by simpa [Value.ownBlock] using hk
        exact .inl (by omega)
      clear hrE hrEb hSp hop2 hb3 hz0 hc1 hc2
      go_wp2
      go_loopw [7, 9] (fun q2 i wz => ∃ (k : Nat) (r : List Int), k ≤ n2 ∧ i = .int .i64 k ∧ Own 3 wr.heap.size wz q2 (ints r) ∧ Hid (L2.take k = txts r ∧ inW r) ∧ Below wr.heap.size wr wz ∧ w3.heap.size ≤ wz.heap.size ∧ OwnSH 9 (wr.heap.size + 1) w3.heap.size wz (.slice ap2 n2 cp2) L2 ∧ Out (wr.heap.size + 1) w3.heap.size q2) (fun _ i _ => n2 - (intOf i).toNat)
      case atStart => exact ⟨0, [], Nat.zero_le _, rfl, hr0, Lib.hid ⟨rfl, fun x hx => by cases hx⟩, b3, Nat.le_refl _, hop2H, hO2⟩
      case round =>
        clear hr0 hop2H hO2 b3
        obtain ⟨k, r, hk, rfl, hr, HR2, bz, hw3, hopz, hOz⟩ := hrel
        have hsz := bz.size
        have bwz := bq.trans (bz.mono hsq)
        by_cases hltk : k < n2
        · obtain ⟨a9, n9, c9, e9, HL9, _, HC9⟩ := hopz.strs.open
          simp only [Value.slice.injEq] at e9
          obtain ⟨e91, e92, -⟩ := e9
          obtain ⟨bk2, off2, t, e93, hct, HTt⟩ := HC9.out k (by omega)
          obtain rfl : ap2 = some ⟨bk2, off2, none⟩ := e91.trans e93
          clear e91 e92 e93 HC9 HL9
          have hts := HP2.out t (List.mem_of_getElem? HTt.out)
          go_wp2_with fail
          refine (sParseInt t _ hts).mono ?_
          rintro e w4 ⟨y, ok, rfl, HR, hb4⟩
          have b4 := bz.trans (hb4.mono hsz)
          have bw4 := bq.trans (b4.mono hsq)
          have hs4 := b4.size
          cases ok with
          | false =>
            have HF := Lib.hid (HB2.out k t y HTt.out HR.out)
            have hfin := OwnMat.empty 62 3 w4
            have hfin2 := OwnMat.mono hfin (Nat.le_trans hsq hs4)
            have bfin := bw4.trans ((below_alloc w4 (.cells #[] 62)).mono bw4.size)
            go_wp2
            go_ret2
            exact matE rfl hfin2 HF bfin
          | true =>
            obtain ⟨y0, y1, hy⟩ := rd_true HR.out
            have HN : Hid (L2.take (k + 1) = txts (r ++ [y]) ∧ inW (r ++ [y])) := Lib.hid ⟨by rw [take_snoc HTt.out, HR2.out.1, txts_snoc, hy], fun z hz => by
              rcases List.mem_append.1 hz with hz | hz
              · exact HR2.out.2 z hz
              · rw [List.mem_singleton.1 hz]; exact ⟨y0, y1⟩⟩
            have hrl : Hid (r.length = k) := Lib.hid (by have := congrArg List.length HR2.out.1; rw [txts_len, List.length_take] at this; omega)
            have hr4 := hr.keep hb4
            have hop4 := hopz.keep hb4
            have hs5 := hb4.size
            clear hy
            go_wp2_with (at_builtin; refine app1b 62 3 8 (.int .i64 0) Tryz.underlying62 Tryz.infoInt rfl hr4 (.int .i64 y) rfl ?h1 ?h2 hs4 rfl _ _ rfl rfl rfl (by simp) ?_)
            case h1 => rw [ints_length, hrl.out]; unfold maxLen; omega
            case h2 => rw [ints_length, hrl.out]; omega
            intro q' w6 hq6 hg hsz6 hblk
            go_wp2
            go_roundw
            case rel => exact ⟨k + 1, r ++ [y], by omega, by go_num, by simpa [ints] using hq6, HN, b4.trans (hr4.below hg (Nat.le_refl _) hs4), by have := hg.size; omega, hop4.grownOut hg hOz, hOz.next hblk (by omega)⟩
            case measure => simp [intOf]; omega
        · have HN := Lib.hid (HTX.out r (by have := HR2.out.1; rwa [List.take_of_length_le (by omega)] at this) HR2.out.2)
          have hH2 := (OwnMat.toH hq).keep bz
          have hown := hH2.toM.own
          have hopw := hop.keep bz
          obtain ⟨ar, nr, cr, rfl⟩ := hr.formI
          go_wp2_with (at_builtin; refine appMb 24 62 3 Tryz.underlying24 Tryz.infoInts (by decide) hH2 hr hsq hsz ?h1 rfl _ _ rfl rfl rfl (by simp) ?_)
          case h1 => rw [hml.out]; omega
          intro q' w6 hq6 hg hsz6 hblk
          have hb6 := bwz.trans (grow_below hg (fun k hk => (hown k hk).1) (Nat.le_refl _) (by omega))
          go_wp2
          go_roundw
          case rel => exact ⟨j + 1, m ++ [r], by omega, by go_num, hq6, HN, hb6, by omega, hopw.grownOut hg hO, hO.next hblk (by omega)⟩
          case measure => simp [intOf]; omega
    · have HF := Lib.hid (HG.out m (by have := HT.out.1; rwa [List.take_of_length_le (by omega)] at this) HT.out.2)
      have HM := Lib.hid hq.mat
      obtain ⟨aq, cq, rfl⟩ := hq.form
      have hfin2 := OwnMat.mono (OwnMat.empty 62 3 wr) hsq
      have bfin := bq.trans ((below_alloc wr (.cells #[] 62)).mono hsq)
      cases hmm : isMat m
      · rw [hmm] at HF
        have HI := Lib.hid hmm
        clear hmm
        go_wp2_with fail
        refine (sIsMatrix _ m _ HM.out).mono ?_
        rintro e w5 ⟨rfl, rfl⟩
        rw [HI.out]
        go_wp2
        go_ret2
        exact matE rfl hfin2 HF bfin
      · rw [hmm] at HF
        have HI := Lib.hid hmm
        clear hmm
        go_wp2_with fail
        refine (sIsMatrix _ m _ HM.out).mono ?_
        rintro e w5 ⟨rfl, rfl⟩
        rw [HI.out]
        go_wp2
        go_ret2
        exact matE rfl hq HF bq
end Go.Proofs.YtkohadoicebojaaGreatDoor
