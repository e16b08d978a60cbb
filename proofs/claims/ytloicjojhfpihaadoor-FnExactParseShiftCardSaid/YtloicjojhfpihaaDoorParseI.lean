/- ParseMatrix, the program's. No statement is proved here. -/
import Derived.Test.YtloicjojhfpihaaDoorParseM
import Derived.Test.YtloicjojhfpihaaDoorMatA
import Derived.Test.YtloicjojhfpihaaDoorTab
namespace Go.Proofs.YtloicjojhfpihaaDoor
open Go.RowKit Go.Deep
def rowsP (s : ByteArray) : List (List ByteArray) := (splL s 47).map fun p => splL p 44
/-- What reading a matrix gives. -/
def MatR (s : ByteArray) (m : List (List Int)) (b : Bool) : Prop := (b = true ∧ rowsP s = m.map txts ∧ isMat m = true) ∨ (b = false ∧ m = [] ∧ ∀ m', isMat m' = true → rowsP s = m'.map txts → False)
theorem isMat_in {m : List (List Int)} (h : isMat m = true) : ∀ r ∈ m, inM r := fun r hr x hx => by
  obtain ⟨i, hi, e⟩ := List.getElem_of_mem hr
  obtain ⟨j, hj, e2⟩ := List.getElem_of_mem hx
  exact isMat_num h (show m[i]? = some r by rw [List.getElem?_eq_getElem hi, e]) (show r[j]? = some x by rw [List.getElem?_eq_getElem hj, e2])
theorem txts_inj : ∀ (r r' : List Int), inM r → inM r' → txts r = txts r' → r = r' := by
  intro r
  induction r with
  | nil => intro r' _ _ h; cases r' with
           | nil => rfl
           | cons a r' => simp [txts] at h
  | cons a r ih =>
    intro r' h1 h2 h
    cases r' with
    | nil => simp [txts] at h
    | cons a' r' =>
      have e1 : fmtI a = fmtI a' := by simp [txts] at h; exact h.1
      have e2 : txts r = txts r' := by simp [txts] at h ⊢; exact h.2
      have b1 := h1 a (List.mem_cons_self ..)
      have b2 := h2 a' (List.mem_cons_self ..)
      have f1 := fmtI_atoi (n := a) (by omega) (by omega) e1
      have f2 := fmtI_atoi (n := a') (by omega) (by omega) rfl
      rw [f1] at f2
      injection f2 with f2
      rw [f2, ih r' (fun x hx => h1 x (List.mem_cons_of_mem _ hx)) (fun x hx => h2 x (List.mem_cons_of_mem _ hx)) e2]
theorem mat_inj : ∀ (m m' : List (List Int)), (∀ r ∈ m, inM r) → (∀ r ∈ m', inM r) → m.map txts = m'.map txts → m = m' := by
  intro m
  induction m with
  | nil => intro m' _ _ h; cases m' with
           | nil => rfl
           | cons a r' => simp at h
  | cons a m ih =>
    intro m' h1 h2 h
    cases m' with
    | nil => simp at h
    | cons a' m' =>
      simp at h
      rw [txts_inj a a' (h1 a (List.mem_cons_self ..)) (h2 a' (List.mem_cons_self ..)) h.1, ih m' (fun x hx => h1 x (List.mem_cons_of_mem _ hx)) (fun x hx => h2 x (List.mem_cons_of_mem _ hx)) (by simpa using h.2)]
theorem MatR.eq {s : ByteArray} {m m' : List (List Int)} {b b' : Bool} (h : MatR s m b) (k : MatR s m' b') : m = m' ∧ b = b' := by
  rcases h with ⟨rfl, h1, h2⟩ | ⟨rfl, rfl, h⟩
  · rcases k with ⟨rfl, k1, k2⟩ | ⟨rfl, rfl, k⟩
    · exact ⟨mat_inj m m' (isMat_in h2) (isMat_in k2) (h1.symm.trans k1), rfl⟩
    · exact (k m h2 h1).elim
  · rcases k with ⟨rfl, k1, k2⟩ | ⟨rfl, rfl, k⟩
    · exact (h m' k2 k1).elim
    · exact ⟨rfl, rfl⟩
theorem matR_bad {s p : ByteArray} {j : Nat} {r : List Int} (hp : (splL s 47)[j]? = some p) (h : RowR p r false) : MatR s [] false := by
  refine .inr ⟨rfl, rfl, fun m' h1 h2 => ?_⟩
  rcases h with ⟨h, _⟩ | ⟨_, h⟩
  · cases h
  · have e : (rowsP s)[j]? = some (splL p 44) := by unfold rowsP; rw [List.getElem?_map, hp]; rfl
    rw [h2, List.getElem?_map] at e
    obtain ⟨r', e1, e2⟩ := Option.map_eq_some_iff.1 e
    exact h r' (isMat_in h1 r' (List.mem_of_getElem? e1)) e2.symm
theorem matR_no {s : ByteArray} {m : List (List Int)} (h : rowsP s = m.map txts) (hi : ∀ r ∈ m, inM r) (hm : isMat m = false) : MatR s [] false :=
  .inr ⟨rfl, rfl, fun m' h1 h2 => by
    have e := mat_inj m m' hi (isMat_in h1) (h.symm.trans h2)
    subst e
    rw [hm] at h1
    cases h1⟩
def MatE (s : ByteArray) (w : World) (e : Ending) (w' : World) : Prop := ∃ v' m b, e = .returned (.tuple #[v', .bool b]) ∧ OwnMat 42 3 w.heap.size w' v' m ∧ Hid (MatR s m b) ∧ Below w.heap.size w w'
theorem matE {s : ByteArray} {w w' : World} {e : Ending} {v : Value} {m : List (List Int)} {b : Bool} (h : e = .returned (.tuple #[v, .bool b])) (h1 : OwnMat 42 3 w.heap.size w' v m) (h2 : Hid (MatR s m b)) (h3 : Below w.heap.size w w') : MatE s w e w' := ⟨v, m, b, h, h1, h2, h3⟩
set_option maxRecDepth 10000 in
set_option maxHeartbeats 400000 in
theorem pchecked (v : Value) (m : List (List Int)) (w : World) (h : Mat w v m) :
    Calls Tryd.prog 26 #[v] w fun e w' => e = .returned (.tuple #[if isMat m then v else .slice none 0 0, .bool (isMat m)]) ∧ w = w' := by
  have HM := Lib.hid h
  obtain ⟨a, n, cap, rfl, -⟩ := h.open
  clear h
  cases hm : isMat m
  · have HI := Lib.hid hm; clear hm
    go_enter Tryd.func26, Tryd.ntmps26
    go_wp2_with fail
    refine (iIsMatrix _ m _ HM.out).mono ?_
    rintro e w2 ⟨rfl, rfl⟩
    rw [HI.out]
    go_wp2
    go_ret2
    exact ⟨rfl, rfl⟩
  · have HI := Lib.hid hm; clear hm
    go_enter Tryd.func26, Tryd.ntmps26
    go_wp2_with fail
    refine (iIsMatrix _ m _ HM.out).mono ?_
    rintro e w2 ⟨rfl, rfl⟩
    rw [HI.out]
    go_wp2
    go_ret2
    exact ⟨rfl, rfl⟩
set_option maxRecDepth 10000 in
set_option maxHeartbeats 400000 in
theorem iParseMatrix (s : ByteArray) (w : World) (hs : s.size ≤ 1048576) (hm : Ml w) (ht : Tb w) (hev : Ev w) :
    Calls Tryd.prog 11 #[.string s] w (MatE s w) := by
  have hlen := splL_small s 47 hs
  have hE := OwnMat.empty 42 3 w
  have hEb := below_alloc w (.cells #[] 42)
  have hSp := Lib.hid (iStrSplit s 47 (w.alloc (.cells #[] 42)) (hm.keep hEb) hs)
  have HP : Hid (∀ p ∈ splL s 47, p.size ≤ 1048576) := Lib.hid fun p hp => Nat.le_trans (part_size hp) hs
  have HB : Hid (∀ j t r, (splL s 47)[j]? = some t → RowR t r false → MatR s [] false) := Lib.hid fun j t r h1 h2 => matR_bad h1 h2
  have HG : Hid (∀ m, (splL s 47).map (fun p => splL p 44) = m.map txts → (∀ r ∈ m, inM r) → MatR s (if isMat m then m else []) (isMat m)) := Lib.hid fun m h1 h2 => by
    cases h : isMat m
    · exact matR_no h1 h2 h
    · exact .inl ⟨rfl, h1, h⟩
  obtain ⟨L, hL⟩ : ∃ L, splL s 47 = L := ⟨_, rfl⟩
  rw [hL] at hSp HP HB HG hlen
  clear hL
  obtain ⟨n, hn⟩ : ∃ n, L.length = n := ⟨_, rfl⟩
  go_enter Tryd.func11, Tryd.ntmps11
  go_wp2_with fail
  refine hSp.out.mono ?_
  rintro e w1 ⟨vp, rfl, (hop : OwnS _ _ _ _ _), hb1⟩
  have b1 := hEb.trans (hb1.mono hEb.size)
  have hq0 := hE.keep hb1
  have hz0 : (w.alloc (.cells #[] 42)).heap.size = w.heap.size + 1 := by simp
  rw [hz0] at hop
  have hopH := OwnS.toH hop
  have hz1 := hb1.size
  rw [hz0] at hz1
  obtain ⟨ap, cp, rfl⟩ := Own.form hop (show (strs L).length = n by rw [strs_length, hn])
  rw [hn] at hlen
  have hO0 : Out (w.heap.size + 1) w1.heap.size (.slice (some ⟨w.heap.size, 0, none⟩) 0 0) := fun k hk => by
    have e : w.heap.size = k := by simpa [Value.ownBlock] using hk
    exact .inl (by omega)
  clear hE hEb hSp hop hb1 hz0
  go_wp2
  go_loopw [4, 6, 7, 8, 13] (fun q _ _ _ i wr => ∃ (j : Nat) (m : List (List Int)), j ≤ n ∧ i = .int .i64 j ∧ OwnMat 42 3 w.heap.size wr q m ∧ Hid ((L.take j).map (fun p => splL p 44) = m.map txts ∧ ∀ r ∈ m, inM r) ∧ Below w.heap.size w wr ∧ w1.heap.size ≤ wr.heap.size ∧ OwnSH 9 (w.heap.size + 1) w1.heap.size wr (.slice ap n cp) L ∧ Out (w.heap.size + 1) w1.heap.size q) (fun _ _ _ _ i _ => n - (intOf i).toNat)
  case atStart => exact ⟨0, [], Nat.zero_le _, rfl, hq0, Lib.hid ⟨rfl, fun x hx => by cases hx⟩, b1, Nat.le_refl _, hopH, hO0⟩
  case round =>
    clear hq0 hopH hO0 b1
    obtain ⟨j, m, hj, rfl, hq, HT, bq, hw1, hop, hO⟩ := hrel
    have hsq := bq.size
    by_cases hlt : j < n
    · obtain ⟨a9, n9, c9, e9, HL9, _, HC9⟩ := hop.strs.open
      simp only [Value.slice.injEq] at e9
      obtain ⟨e91, e92, -⟩ := e9
      obtain ⟨bk, off, x, e93, hc1, HX⟩ := HC9.out j (by omega)
      obtain rfl : ap = some ⟨bk, off, none⟩ := e91.trans e93
      clear e91 e92 e93 HC9 HL9
      have hxs := HP.out x (List.mem_of_getElem? HX.out)
      have hP := Lib.hid (iparseRow x wr hxs (hm.keep bq) (ht.keep bq) (hev.keep bq))
      go_wp2_with fail
      refine hP.out.mono ?_
      rintro e w2 ⟨vr, r, ok, rfl, hr, HR, hb2⟩
      have b2 := bq.trans (hb2.mono hsq)
      cases ok with
      | false =>
        have HF := Lib.hid (HB.out j x r HX.out HR.out)
        clear hr
        go_wp2
        go_ret2
        exact matE rfl (OwnMat.nil _ _ _ _) HF b2
      | true =>
        have hr1 := hr rfl
        clear hr
        have hRR : splL x 44 = txts r ∧ inM r := by
          rcases HR.out with ⟨_, h1, h2⟩ | ⟨h, _⟩
          · exact ⟨h1, h2⟩
          · cases h
        have HN : Hid ((L.take (j + 1)).map (fun p => splL p 44) = (m ++ [r]).map txts ∧ ∀ z ∈ m ++ [r], inM z) := Lib.hid ⟨by rw [take_snoc HX.out, List.map_append, HT.out.1, List.map_append]; simp [hRR.1], fun z hz => by
          rcases List.mem_append.1 hz with hz | hz
          · exact HT.out.2 z hz
          · rw [List.mem_singleton.1 hz]; exact hRR.2⟩
        have hml : Hid (m.length = j) := Lib.hid (by have := congrArg List.length HT.out.1; rw [List.length_map, List.length_map, List.length_take] at this; omega)
        clear hRR
        have hH2 := (OwnMat.toH hq).keep hb2
        have hown := hH2.toM.own
        have hop2 := hop.keep hb2
        have hs2 := b2.size
        have hs3 := hb2.size
        obtain ⟨ar, nr, cr, rfl⟩ := hr1.formI
        go_wp2_with (at_builtin; refine appMb 30 42 3 Tryd.underlying30 Tryd.infoInts (by decide) hH2 hr1 hsq hs3 ?h1 rfl _ _ rfl rfl rfl (by simp) ?_)
        case h1 => rw [hml.out]; omega
        intro q' w4 hq4 hg hsz hblk
        have hb4 := b2.trans (grow_below hg (fun k hk => (hown k hk).1) (Nat.le_refl _) hs2)
        go_wp2
        go_roundw
        case rel => exact ⟨j + 1, m ++ [r], by omega, by go_num, hq4, HN, hb4, by omega, hop2.grownOut hg hO, hO.next hblk (by omega)⟩
        case measure => simp [intOf]; omega
    · have HF := Lib.hid (HG.out m (by have := HT.out.1; rwa [List.take_of_length_le (by omega)] at this) HT.out.2)
      have hck := Lib.hid (pchecked _ m wr hq.mat)
      obtain ⟨aq, cq, rfl⟩ := hq.form
      cases hmm : isMat m
      · rw [hmm] at HF hck
        clear hmm
        go_wp2_with fail
        refine hck.out.mono ?_
        rintro e w5 ⟨rfl, rfl⟩
        go_wp2
        go_ret2
        exact matE rfl (OwnMat.nil _ _ _ _) HF bq
      · rw [hmm] at HF hck
        clear hmm
        go_wp2_with fail
        refine hck.out.mono ?_
        rintro e w5 ⟨rfl, rfl⟩
        go_wp2
        go_ret2
        exact matE rfl hq HF bq
end Go.Proofs.YtloicjojhfpihaaDoor
