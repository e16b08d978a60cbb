/- The different parts of a word, the reference's: inserting in order. No statement is proved here. -/
import Derived.Test.YtidfnhoeaofgeaaFacI
import Derived.Test.YtidfnhoeaofgeaaAppL
namespace Go.Proofs.Ytidfnhoeaofgeaa
open Go.RowKit Go.Deep
def putS (L : List ByteArray) (x : ByteArray) : List ByteArray := (ins (bts x) (L.map bts)).map str
theorem map_bts_str (L : List BL) : (L.map str).map bts = L := by simp [Function.comp_def, bts_str]
theorem map_str_bts (L : List ByteArray) : (L.map bts).map str = L := by simp [Function.comp_def, str_bts]
theorem putS_facS (s : ByteArray) (n c : Nat) : putS (facS s n c) (piece s n c) = facS s n (c + 1) := by
  unfold putS facS
  rw [map_bts_str, pieces_succ, List.map_append, List.map_cons, List.map_nil, insAll_snoc]
/-- What stands ahead of place k goes ahead of x. -/
def ahd (L : List ByteArray) (x : ByteArray) (k : Nat) : Prop := ∀ i, i < k → ∃ a, L[i]? = some a ∧ ltS a x = true
theorem ahd_zero (L : List ByteArray) (x : ByteArray) : ahd L x 0 := fun i hi => by omega
theorem ahd_succ {L : List ByteArray} {x y : ByteArray} {k : Nat} (h : ahd L x k) (hy : L[k]? = some y) (hl : ltS y x = true) : ahd L x (k + 1) := fun i hi => by
  by_cases e : i = k
  · subst e; exact ⟨y, hy, hl⟩
  · exact h i (by omega)
theorem putS_at {L : List ByteArray} {x : ByteArray} {k : Nat} (h : ahd L x k) (h2 : ∀ a, L[k]? = some a → ltS a x = false) :
    (L[k]? = some x → putS L x = L) ∧ (¬ L[k]? = some x → putS L x = L.take k ++ x :: L.drop k) := by
  have h3 := ins_at (bts x) (L.map bts) k (fun i hi => by
    obtain ⟨a, ha, hl⟩ := h i hi
    exact ⟨bts a, by rw [List.getElem?_map, ha]; rfl, of_decide_eq_true hl⟩) (fun a ha => by
    rw [List.getElem?_map] at ha
    cases e : L[k]? with
    | none => rw [e] at ha; cases ha
    | some y =>
      rw [e] at ha
      simp only [Option.map_some, Option.some.injEq] at ha
      subst ha
      exact of_decide_eq_false (h2 y e))
  constructor
  · intro e
    unfold putS
    rw [h3.1 (by rw [List.getElem?_map, e]; rfl), map_str_bts]
  · intro e
    unfold putS
    rw [h3.2 (fun e2 => e (by
      rw [List.getElem?_map] at e2
      cases e3 : L[k]? with
      | none => rw [e3] at e2; cases e2
      | some y =>
        rw [e3] at e2
        simp only [Option.map_some, Option.some.injEq] at e2
        rw [bts_inj e2])), List.map_append, List.map_cons, List.map_take, List.map_drop, map_str_bts, str_bts]
theorem putS_len (L : List ByteArray) (x : ByteArray) : (putS L x).length ≤ L.length + 1 := by
  have key : ∀ x (m : List BL), (ins x m).length ≤ m.length + 1 := by
    intro x m
    induction m with
    | nil => simp [ins]
    | cons a m ih =>
      unfold ins
      by_cases h1 : a < x
      · rw [if_pos h1, List.length_cons, List.length_cons]; omega
      · rw [if_neg h1]
        by_cases h2 : a = x
        · rw [if_pos h2]; omega
        · rw [if_neg h2]; simp
  unfold putS
  have := key (bts x) (L.map bts)
  rw [List.length_map] at this ⊢; exact this
theorem Own.pre {e : TypeId} {B g n cap j : Nat} {w : World} {xs : List Value} (h : Own e B w (.slice (some ⟨g, 0, none⟩) n cap) xs) (hj : j ≤ n) : Own e B w (.slice (some ⟨g, 0, none⟩) j cap) (xs.take j) := by
  obtain ⟨_, ⟨e0, _⟩ | ⟨g', cap', cur, e0, hB, hg, hnc, hcm, hcs, ht⟩⟩ := h
  · cases e0
  · cases e0
    have hl : (xs.take j).length = j := by rw [List.length_take]; omega
    unfold Own
    rw [hl]
    refine ⟨by rw [Nat.mul_one]; exact hl, .inr ⟨g, cap, cur, rfl, hB, hg, by omega, hcm, hcs, ?_⟩⟩
    have h2 := congrArg (List.take j) ht
    rw [List.take_take, Nat.min_eq_left (by omega)] at h2
    rw [Nat.mul_one]; exact h2
theorem Own.blk {e : TypeId} {B g n cap : Nat} {w : World} {xs : List Value} (h : Own e B w (.slice (some ⟨g, 0, none⟩) n cap) xs) : xs.length = n ∧ n ≤ cap ∧ cap ≤ maxLen := by
  obtain ⟨_, ⟨e0, _⟩ | ⟨g', cap', cur, e0, hB, hg, hnc, hcm, hcs, ht⟩⟩ := h
  · cases e0
  · cases e0; exact ⟨rfl, hnc, hcm⟩
theorem strs_one' (l : List ByteArray) : ∀ y ∈ strs l, y.oneCell' = true := fun y hy => by
  obtain ⟨x, _, rfl⟩ := List.mem_map.1 hy
  rfl
theorem Row.none (w : World) (A : Option Addr) (c : Nat) (hc : c ≤ maxLen) : Row w (.slice A 0 c) [] := ⟨A, c, rfl, Nat.zero_le _, hc, fun i hi => by simp at hi⟩
theorem strs_take (l : List ByteArray) (j : Nat) : (strs l).take j = strs (l.take j) := by simp [strs, List.map_take]
set_option maxRecDepth 10000 in
set_option maxHeartbeats 800000 in
theorem sPutB (B g n cap : Nat) (L : List ByteArray) (x : ByteArray) (w : World) (h : Own 9 B w (.slice (some ⟨g, 0, none⟩) n cap) (strs L)) (hl : L.length ≤ 1000000) (hB : B ≤ w.heap.size) :
    Calls Try.prog 74 #[.slice (some ⟨g, 0, none⟩) n cap, .string x] w fun e w' => ∃ v', e = .returned v' ∧ Own 9 B w' v' (strs (putS L x)) ∧ Below B w w' := by
  obtain ⟨a3, n3, c3, hv3, HL, hn3, HC⟩ := (OwnS.strs h).open
  cases hv3
  have hl2 : n ≤ 1000000 := by have := HL.out; omega
  obtain ⟨-, hnc, hcm⟩ := h.blk
  have hgl := (h.lt g rfl).2
  have hcm2 : cap ≤ 9223372036854775807 := by unfold maxLen at hcm; omega
  clear hcm
  have he := Own.empty 9 w
  have hba := below_alloc w (.cells #[] 9)
  go_enter Try.func74, Try.ntmps74
  go_wp2
  go_loop [5] (fun i => ∃ j : Nat, j ≤ n ∧ i = .int .i64 j ∧ Hid (ahd L x j)) (fun i => n - (intOf i).toNat)
  case atStart => exact ⟨0, Nat.zero_le _, rfl, Lib.hid (ahd_zero _ _)⟩
  case round =>
    obtain ⟨j, hj, rfl, HA⟩ := hrel
    have HR : Hid (∀ c, cap - j ≤ c → c ≤ 9223372036854775807 → ∀ o, (j < n → o = j) → Row (w.alloc (.cells #[] 9)) (.slice (some ⟨g, o, none⟩) (n - j) c) (strs (L.drop j))) := Lib.hid fun c hc hc2 o ho => by
      have hdl : (strs (L.drop j)).length = n - j := by rw [strs_length, List.length_drop, HL.out]
      refine ⟨_, c, by rw [hdl], by omega, by unfold maxLen; omega, fun i hi => ?_⟩
      rw [hdl] at hi
      obtain ⟨b, off, y, hab, hcy, HY⟩ := HC.out (j + i) (by omega)
      cases hab
      rw [Nat.zero_add] at hcy
      have hoj := ho (by omega)
      subst hoj
      refine ⟨g, _, rfl, ?_⟩
      rw [cell_keep hba hcy, strs_get]
      congr 2
      have h2 := HY.out
      rw [List.getElem_drop]
      rw [List.getElem?_eq_getElem (by have := HL.out; omega)] at h2
      exact (Option.some.inj h2).symm
    by_cases hlt : j < n
    · obtain ⟨b, off, y, hab, hcy, HY⟩ := HC.out j hlt
      cases hab
      rw [Nat.zero_add] at hcy
      have hjc : j < cap := by omega
      cases hls : ltS y x
      · have hbl : Op.bytesLess y.toList x.toList = false := by rw [bytesLess_ltS]; exact hls
        have HP := Lib.hid (putS_at HA.out (fun a ha => by rw [HY.out] at ha; cases ha; exact hls))
        by_cases hyx : y = x
        · have HO := Lib.hid (HP.out.1 (by rw [HY.out, hyx]))
          subst hyx
          go_wp2
          go_ret
          exact ⟨_, rfl, by rw [HO.out]; exact h, Below.refl _ _⟩
        · have HO := Lib.hid (HP.out.2 (by rw [HY.out]; intro e; cases e; exact hyx rfl))
          have hne := beq_toList_ne hyx
          have HE : Hid (strs (putS L x) = strs (L.take j) ++ [.string x] ++ strs (L.drop j)) := Lib.hid (by rw [HO.out]; simp [strs])
          go_wp2_with (at_builtin; refine appL 25 9 16 (.string ByteArray.empty) Try.underlying25 Try.infoStr rfl he (HR.out (cap - j) (Nat.le_refl _) (by omega) j (fun _ => rfl)) (strs_one' _) ?k1 ?k2 (by simp) rfl _ _ rfl rfl rfl ?_)
          case k1 => rw [strs_length, List.length_drop, HL.out]; unfold maxLen; first | omega | (simp; omega)
          case k2 => rw [strs_length, List.length_drop, HL.out]; first | omega | (simp; omega)
          intro v1 w1 hv1 hg1
          have bw1 : Below w.heap.size w w1 := hba.trans (he.below hg1 (Nat.le_refl _) (by simp))
          have zw1 := bw1.size
          have h1 := (h.keep bw1).pre (j := j) (by omega)
          rw [strs_take] at h1
          clear hg1
          (try rw [List.nil_append] at hv1)
          obtain ⟨a1, c1, rfl⟩ := hv1.form rfl
          go_wp2_with (at_builtin; refine app1 25 9 16 (.string ByteArray.empty) Try.underlying25 Try.infoStr rfl h1 (.string x) rfl ?k3 ?k4 (by omega) rfl _ _ rfl rfl rfl (by simp) ?_)
          case k3 => rw [strs_length, List.length_take, HL.out]; unfold maxLen; omega
          case k4 => rw [strs_length, List.length_take, HL.out]; omega
          intro v2 w2 hv2 hg2 hz2
          have hv12 := hv1.grown hg2 (.inr fun e => by have := (hv1.lt g (by simpa [Value.ownBlock] using e)).1; omega)
          have bw2 : Below B w w2 := (bw1.mono hB).trans (h1.below hg2 (Nat.le_refl _) (by omega))
          clear hg2 hv1
          go_wp2_with (at_builtin; refine appL 25 9 16 (.string ByteArray.empty) Try.underlying25 Try.infoStr rfl hv2 hv12.row (strs_one' _) ?k5 ?k6 (by omega) rfl _ _ rfl rfl rfl ?_)
          case k5 => rw [List.length_append, strs_length, strs_length, List.length_take, List.length_drop, HL.out]; unfold maxLen; first | omega | (simp; omega)
          case k6 => rw [List.length_append, strs_length, strs_length, List.length_take, List.length_drop, HL.out]; first | omega | (simp; omega)
          intro v3 w3 hv3 hg3
          go_wp2
          go_ret
          exact ⟨_, rfl, by rw [HE.out, List.append_assoc]; exact hv3, bw2.trans (hv2.below hg3 (Nat.le_refl _) (by omega))⟩
      · have hbl : Op.bytesLess y.toList x.toList = true := by rw [bytesLess_ltS]; exact hls
        have HO := Lib.hid (ahd_succ HA.out HY.out hls)
        go_wp2
        go_round
        case rel => exact ⟨j + 1, by omega, by go_num, HO⟩
        case measure => simp [intOf]; omega
    · have e : j = n := by omega
      subst e
      have HO := Lib.hid ((putS_at HA.out (fun a ha => by rw [List.getElem?_eq_none (by rw [HL.out]; exact Nat.le_refl _)] at ha; cases ha)).2 (by rw [List.getElem?_eq_none (by rw [HL.out]; exact Nat.le_refl _)]; simp))
      have hnj : j - j = 0 := Nat.sub_self j
      have HE : Hid (strs (putS L x) = strs (L.take j) ++ [.string x] ++ []) := Lib.hid (by rw [HO.out, List.drop_of_length_le (by rw [HL.out]; exact Nat.le_refl _)]; simp [strs])
      by_cases hjc : j = cap
      · subst hjc
        go_wp2_with (at_builtin; refine appL 25 9 16 (.string ByteArray.empty) Try.underlying25 Try.infoStr rfl he (Row.none _ _ _ (by unfold maxLen; omega)) (fun y hy => by cases hy) (by unfold maxLen; simp) (by simp) (by simp) rfl _ _ rfl rfl rfl ?_)
        intro v1 w1 hv1 hg1
        have bw1 : Below w.heap.size w w1 := hba.trans (he.below hg1 (Nat.le_refl _) (by simp))
        have zw1 := bw1.size
        have h1 := (h.keep bw1).pre (j := j) (by omega)
        rw [strs_take] at h1
        clear hg1
        (try rw [List.nil_append] at hv1)
        obtain ⟨a1, c1, rfl⟩ := hv1.form rfl
        go_wp2_with (at_builtin; refine app1 25 9 16 (.string ByteArray.empty) Try.underlying25 Try.infoStr rfl h1 (.string x) rfl ?k3 ?k4 (by omega) rfl _ _ rfl rfl rfl (by simp) ?_)
        case k3 => rw [strs_length, List.length_take, HL.out]; unfold maxLen; omega
        case k4 => rw [strs_length, List.length_take, HL.out]; omega
        intro v2 w2 hv2 hg2 hz2
        have hv12 := hv1.grown hg2 (.inr fun e => by have := (hv1.lt g (by simpa [Value.ownBlock] using e)).1; omega)
        have bw2 : Below B w w2 := (bw1.mono hB).trans (h1.below hg2 (Nat.le_refl _) (by omega))
        clear hg2 hv1
        go_wp2_with (at_builtin; refine appL 25 9 16 (.string ByteArray.empty) Try.underlying25 Try.infoStr rfl hv2 hv12.row (fun y hy => by cases hy) ?k5 ?k6 (by omega) rfl _ _ rfl rfl rfl ?_)
        case k5 => rw [List.length_append, strs_length, List.length_take, HL.out]; unfold maxLen; simp; omega
        case k6 => rw [List.length_append, strs_length, List.length_take, HL.out]; simp; omega
        intro v3 w3 hv3 hg3
        go_wp2
        go_ret
        exact ⟨_, rfl, by rw [HE.out, List.append_assoc]; exact hv3, bw2.trans (hv2.below hg3 (Nat.le_refl _) (by omega))⟩
      · have hjc2 : j < cap := by omega
        go_wp2_with (at_builtin; refine appL 25 9 16 (.string ByteArray.empty) Try.underlying25 Try.infoStr rfl he (Row.none _ _ _ (by unfold maxLen; omega)) (fun y hy => by cases hy) (by unfold maxLen; simp) (by simp) (by simp) rfl _ _ rfl rfl rfl ?_)
        intro v1 w1 hv1 hg1
        have bw1 : Below w.heap.size w w1 := hba.trans (he.below hg1 (Nat.le_refl _) (by simp))
        have zw1 := bw1.size
        have h1 := (h.keep bw1).pre (j := j) (by omega)
        rw [strs_take] at h1
        clear hg1
        (try rw [List.nil_append] at hv1)
        obtain ⟨a1, c1, rfl⟩ := hv1.form rfl
        go_wp2_with (at_builtin; refine app1 25 9 16 (.string ByteArray.empty) Try.underlying25 Try.infoStr rfl h1 (.string x) rfl ?k3 ?k4 (by omega) rfl _ _ rfl rfl rfl (by simp) ?_)
        case k3 => rw [strs_length, List.length_take, HL.out]; unfold maxLen; omega
        case k4 => rw [strs_length, List.length_take, HL.out]; omega
        intro v2 w2 hv2 hg2 hz2
        have hv12 := hv1.grown hg2 (.inr fun e => by have := (hv1.lt g (by simpa [Value.ownBlock] using e)).1; omega)
        have bw2 : Below B w w2 := (bw1.mono hB).trans (h1.below hg2 (Nat.le_refl _) (by omega))
        clear hg2 hv1
        go_wp2_with (at_builtin; refine appL 25 9 16 (.string ByteArray.empty) Try.underlying25 Try.infoStr rfl hv2 hv12.row (fun y hy => by cases hy) ?k5 ?k6 (by omega) rfl _ _ rfl rfl rfl ?_)
        case k5 => rw [List.length_append, strs_length, List.length_take, HL.out]; unfold maxLen; simp; omega
        case k6 => rw [List.length_append, strs_length, List.length_take, HL.out]; simp; omega
        intro v3 w3 hv3 hg3
        go_wp2
        go_ret
        exact ⟨_, rfl, by rw [HE.out, List.append_assoc]; exact hv3, bw2.trans (hv2.below hg3 (Nat.le_refl _) (by omega))⟩
theorem putS_ne (L : List ByteArray) (x : ByteArray) : putS L x ≠ [] := by
  intro e
  have h : bts x ∈ ins (bts x) (L.map bts) := (ins_mem _ _ _).2 (.inl rfl)
  have h2 : str (bts x) ∈ putS L x := List.mem_map.2 ⟨_, h, rfl⟩
  rw [e] at h2; cases h2
theorem sPut (B : Nat) (v : Value) (L : List ByteArray) (x : ByteArray) (w : World) (h : Own 9 B w v (strs L)) (hv : v ≠ .slice none 0 0) (hl : L.length ≤ 1000000) (hB : B ≤ w.heap.size) :
    Calls Try.prog 74 #[v, .string x] w fun e w' => ∃ v', e = .returned v' ∧ Own 9 B w' v' (strs (putS L x)) ∧ v' ≠ .slice none 0 0 ∧ Below B w w' := by
  have h0 := h
  obtain ⟨_, ⟨e0, _⟩ | ⟨g, cap, cur, rfl, _⟩⟩ := h0
  · exact absurd e0 hv
  · refine (sPutB B g _ cap L x w h hl hB).mono ?_
    rintro e w' ⟨v', rfl, ho, hb⟩
    refine ⟨v', rfl, ho, ?_, hb⟩
    rintro rfl
    obtain ⟨_, ⟨_, e1⟩ | ⟨_, _, _, e1, _⟩⟩ := ho
    · rw [strs_length] at e1
      exact putS_ne L x (List.length_eq_zero_iff.1 e1)
    · cases e1
set_option maxRecDepth 10000 in
set_option maxHeartbeats 400000 in
theorem sFactorsOf (s : ByteArray) (n : Int) (w : World) (hs : s.size ≤ 1048576) :
    Calls Try.prog 33 #[.string s, .int .i64 n] w fun e w' => ∃ v', e = .returned v' ∧ OwnS 9 w.heap.size w' v' (facL s n) ∧ Below w.heap.size w w' := by
  have he := Own.empty 9 w
  have hb := below_alloc w (.cells #[] 9)
  cases hW : isWord 3 s
  · have HO := Lib.hid (facL_1 (n := n) hW)
    have HW := Lib.hid hW; clear hW
    go_enter Try.func33, Try.ntmps33
    go_wp2_with (go_at_call 48; refine (sIsWord _ _ _ hs).mono ?_; rintro e w' ⟨rfl, rfl⟩; rw [HW.out])
    go_ret
    exact ⟨_, rfl, by rw [HO.out]; exact he, hb⟩
  cases hN : inR n 0 s.size
  · have HO := Lib.hid (facL_2 hN)
    have HW := Lib.hid hW
    have HN := Lib.hid hN; clear hW hN
    go_enter Try.func33, Try.ntmps33
    go_wp2_with (first | (go_at_call 48; refine (sIsWord _ _ _ hs).mono ?_; rintro e w' ⟨rfl, rfl⟩; rw [HW.out]) | (go_at_call 61; refine (l1In' _ _ _ _).mono ?_; rintro e w2 ⟨rfl, rfl⟩; rw [HN.out]))
    go_ret
    exact ⟨_, rfl, by rw [HO.out]; exact he, hb⟩
  have hn := inR_iff.1 hN
  obtain ⟨N, rfl⟩ : ∃ N : Nat, n = N := ⟨n.toNat, by omega⟩
  have HO := Lib.hid (facL_3 hW hN)
  have h16 := isWord_16 hW
  have HW := Lib.hid hW
  have HN := Lib.hid hN; clear hW hN
  obtain ⟨c, hc⟩ : ∃ c, s.size - N + 1 = c := ⟨_, rfl⟩
  have hc1 : c ≤ 17 := by omega
  have hc2 : s.size + 1 ≤ c + N := by omega
  have hc3 : c + N ≤ s.size + 1 := by omega
  rw [hc] at HO
  clear hc
  go_enter Try.func33, Try.ntmps33
  go_wp2_with (first | (go_at_call 48; refine (sIsWord _ _ _ hs).mono ?_; rintro e w' ⟨rfl, rfl⟩; rw [HW.out]) | (go_at_call 61; refine (l1In' _ _ _ _).mono ?_; rintro e w2 ⟨rfl, rfl⟩; rw [HN.out]))
  go_loopw [5, 6] (fun q i wr => ∃ j : Nat, j ≤ c ∧ i = .int .i64 j ∧ Own 9 w.heap.size wr q (strs (facS s N j)) ∧ q ≠ .slice none 0 0 ∧ Below w.heap.size w wr) (fun _ i _ => c - (intOf i).toNat)
  case atStart => exact ⟨0, Nat.zero_le _, rfl, he, by simp, hb⟩
  case round =>
    clear he hb
    obtain ⟨j, hj, rfl, hq, hqn, hb⟩ := hrel
    have hsr := hb.size
    by_cases hlt : j + N ≤ s.size
    · obtain ⟨x, hx⟩ : ∃ x, s.extract j (j + N) = x := ⟨_, rfl⟩
      have HS : Hid (putS (facS s N j) x = facS s N (j + 1)) := Lib.hid (by rw [← putS_facS, piece, hx])
      have HFL := facS_len s N j
      obtain ⟨aq, cq, hqf⟩ := hq.form rfl
      subst hqf
      go_wp2_with fail
      refine (sPut w.heap.size _ (facS s N j) x _ hq hqn (by omega) hsr).mono ?_
      rintro e w3 ⟨v3, rfl, ho3, hn3, hb3⟩
      go_wp2
      go_roundw
      case rel => exact ⟨j + 1, by omega, by go_num, by rw [← HS.out]; exact ho3, hn3, hb.trans hb3⟩
      case measure => simp [intOf]; omega
    · have e : j = c := by omega
      subst e
      go_wp2
      go_ret
      exact ⟨_, rfl, by rw [HO.out]; exact hq, hb⟩
end Go.Proofs.Ytidfnhoeaofgeaa
