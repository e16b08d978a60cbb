/- The implementation's rounds of elimination. No statement is proved here. -/
import Derived.Test.YtkohadoicebojaaGreatDoorNext
namespace Go.Proofs.YtkohadoicebojaaGreatDoor
open Go.RowKit Go.Deep
def nxE (nx : List (List Int)) (a b : Nat) : Bool := decide ((b : Int) ∈ nx.getD a [])
theorem nxE_of {nx : List (List Int)} {a : Nat} {r : List Int} (h : nx[a]? = some r) (b : Nat) : nxE nx a b = decide ((b : Int) ∈ r) := by simp [nxE, h]
theorem frTo_congr {e e' : Nat → Nat → Bool} {L L' : Nat → Bool} {i : Nat} : ∀ {n : Nat}, (∀ j, j < n → L j = L' j ∧ e i j = e' i j) → frTo e L i n = frTo e' L' i n := by
  intro n
  induction n with
  | zero => intro _; rfl
  | succ n ih => intro h; simp only [frTo, ih fun j hj => h j (by omega), (h n (by omega)).1, (h n (by omega)).2]
theorem toTo_congr {e e' : Nat → Nat → Bool} {L L' : Nat → Bool} {i : Nat} : ∀ {n : Nat}, (∀ j, j < n → L j = L' j ∧ e j i = e' j i) → toTo e L i n = toTo e' L' i n := by
  intro n
  induction n with
  | zero => intro _; rfl
  | succ n ih => intro h; simp only [toTo, ih fun j hj => h j (by omega), (h n (by omega)).1, (h n (by omega)).2]
theorem rnd_congr {e e' : Nat → Nat → Bool} {n : Nat} (h : ∀ a b, a < n → b < n → e a b = e' a b) : ∀ t i, i < n → rnd e n t i = rnd e' n t i := by
  intro t
  induction t with
  | zero => intro _ _; rfl
  | succ t ih =>
    intro i hi
    simp only [rnd, good]
    rw [ih i hi, frTo_congr fun j hj => ⟨ih j hj, h i j hi hj⟩, toTo_congr fun j hj => ⟨ih j hj, h j i hj hi⟩]
theorem lvTo_mem {L : Nat → Bool} {b : Nat} : ∀ {n : Nat}, (b : Int) ∈ lvTo L n ↔ b < n ∧ L b = true := by
  intro n
  induction n with
  | zero => simp [lvTo]
  | succ n ih =>
    simp only [lvTo, List.mem_append, ih]
    by_cases e : b = n
    · subst e
      cases hl : L b <;> simp
    · have e2 : ¬ (b : Int) = (n : Int) := by omega
      have hb : b < n + 1 ↔ b < n := by omega
      rw [hb]
      cases hl : L n
      · simp
      · simp only [if_true, List.mem_singleton]
        exact ⟨fun h => h.elim id fun h => absurd h e2, .inl⟩
theorem nxE_nxTo {e : Nat → Nat → Bool} {n a b : Nat} (ha : a < n) (hb : b < n) : nxE (nxTo e n n) a b = e a b := by
  have h : (nxTo e n n)[a]? = some (lvTo (e a) n) := by simp [nxTo, ha]
  rw [nxE_of h, Bool.eq_iff_iff, decide_eq_true_iff, lvTo_mem]
  simp [hb]
theorem lv_nxTo (e : Nat → Nat → Bool) (n : Nat) : bls n (lv (nxE (nxTo e n n)) n) = bls n (lv e n) := bls_congr fun i hi => rnd_congr (fun _ _ ha hb => nxE_nxTo ha hb) n i hi
/-- The marks on vertices with arcs to others, up to vertex i and j of its arcs. -/
def FR (e : Nat → Nat → Bool) (n : Nat) (L : Nat → Bool) (i : Nat) (c : Bool) : Nat → Bool := fun b => L b && ((decide (b < i) && frTo e L b n) || (decide (b = i) && c))
def TT (e : Nat → Nat → Bool) (L : Nat → Bool) (i : Nat) (p : Nat → Bool) : Nat → Bool := fun b => L b && (toTo e L b i || (L i && p b))
theorem any_frTo {e : Nat → Nat → Bool} {L : Nat → Bool} {i n : Nat} {r : List Int} (he : ∀ b, e i b = decide ((b : Int) ∈ r)) (hr : ∀ x ∈ r, 0 ≤ x ∧ x < n) : (r.any fun x => L x.toNat) = frTo e L i n := by
  have key : ∀ k, frTo e L i k = true ↔ ∃ b, b < k ∧ L b = true ∧ e i b = true := by
    intro k
    induction k with
    | zero => simp [frTo]
    | succ k ih =>
      simp only [frTo, Bool.or_eq_true, Bool.and_eq_true, ih]
      constructor
      · rintro (⟨b, h1, h2⟩ | h2)
        · exact ⟨b, by omega, h2⟩
        · exact ⟨k, by omega, h2⟩
      · rintro ⟨b, h1, h2⟩
        by_cases e2 : b = k
        · subst e2; exact .inr h2
        · exact .inl ⟨b, by omega, h2⟩
  rw [Bool.eq_iff_iff, key, List.any_eq_true]
  constructor
  · rintro ⟨x, hx, hl⟩
    have h2 := hr x hx
    refine ⟨x.toNat, by omega, hl, ?_⟩
    rw [he, decide_eq_true_iff, Int.toNat_of_nonneg h2.1]
    exact hx
  · rintro ⟨b, _, h2, h3⟩
    rw [he, decide_eq_true_iff] at h3
    exact ⟨b, h3, by simpa using h2⟩
theorem FR_zero (e : Nat → Nat → Bool) (n : Nat) (L : Nat → Bool) : bls n (FR e n L 0 false) = bls n fun _ => false := bls_congr fun b _ => by simp [FR]
theorem TT_zero (e : Nat → Nat → Bool) (n : Nat) (L : Nat → Bool) : bls n (TT e L 0 fun _ => false) = bls n fun _ => false := bls_congr fun b _ => by simp [TT, toTo]
theorem FR_row {e : Nat → Nat → Bool} {n i : Nat} {L : Nat → Bool} : bls n (FR e n L i (frTo e L i n)) = bls n (FR e n L (i + 1) false) := bls_congr fun b _ => by
  by_cases h : b = i
  · subst h; simp [FR]
  · have h2 : decide (b < i) = decide (b < i + 1) := by simp; omega
    simp only [FR, h2]; simp [h]
theorem TT_row {e : Nat → Nat → Bool} {n i : Nat} {L : Nat → Bool} {p : Nat → Bool} (hp : ∀ b, p b = e i b) : bls n (TT e L i p) = bls n (TT e L (i + 1) fun _ => false) := bls_congr fun b _ => by
  simp [TT, toTo, hp]
theorem FR_set {e : Nat → Nat → Bool} {n i : Nat} {L : Nat → Bool} {c : Bool} (hl : L i = true) : (bls n (FR e n L i c)).set i (.bool true) = bls n (FR e n L i true) := by
  rw [bls_set]
  refine bls_congr fun b _ => ?_
  by_cases h : b = i
  · subst h; simp [FR, hl]
  · rw [if_neg h]; simp [FR, h]
theorem TT_set {e : Nat → Nat → Bool} {n i k : Nat} {L : Nat → Bool} {p : Nat → Bool} (hl : L i = true) (hk : L k = true) : (bls n (TT e L i p)).set k (.bool true) = bls n (TT e L i fun b => p b || decide (b = k)) := by
  rw [bls_set]
  refine bls_congr fun b _ => ?_
  by_cases h : b = k
  · subst h; simp [TT, hl, hk]
  · rw [if_neg h]; simp [TT, h]
theorem TT_skip {e : Nat → Nat → Bool} {n i k : Nat} {L : Nat → Bool} {p : Nat → Bool} (h : L i = false ∨ L k = false) : bls n (TT e L i p) = bls n (TT e L i fun b => p b || decide (b = k)) := bls_congr fun b _ => by
  rcases h with h | h
  · simp [TT, h]
  · by_cases e2 : b = k
    · subst e2; simp [TT, h]
    · simp [TT, e2]
theorem FR_skip {e : Nat → Nat → Bool} {n i : Nat} {L : Nat → Bool} {c c' : Bool} (h : L i = false ∨ c = c') : bls n (FR e n L i c) = bls n (FR e n L i c') := bls_congr fun b _ => by
  rcases h with h | h
  · by_cases e2 : b = i
    · subst e2; simp [FR, h]
    · simp [FR, e2]
  · rw [h]
/-- The end of a round, up to vertex i. -/
def upTo (e : Nat → Nat → Bool) (n : Nat) (L : Nat → Bool) (i : Nat) : Nat → Bool := fun b => if b < i then L b && good e n L b else L b
theorem upTo_zero (e : Nat → Nat → Bool) (n : Nat) (L : Nat → Bool) : bls n (upTo e n L 0) = bls n L := bls_congr fun b _ => by simp [upTo]
theorem upTo_set (e : Nat → Nat → Bool) (n : Nat) (L : Nat → Bool) (i : Nat) : (bls n (upTo e n L i)).set i (.bool (L i && good e n L i)) = bls n (upTo e n L (i + 1)) := by
  rw [bls_set]
  refine bls_congr fun b _ => ?_
  unfold upTo
  by_cases h : b = i
  · subst h; rw [if_pos rfl, if_pos (by omega)]
  · rw [if_neg h]
    by_cases h2 : b < i
    · rw [if_pos h2, if_pos (by omega)]
    · rw [if_neg h2, if_neg (by omega)]
theorem upTo_all (e : Nat → Nat → Bool) (n t : Nat) : bls n (upTo e n (rnd e n t) n) = bls n (rnd e n (t + 1)) := bls_congr fun b hb => by simp [upTo, rnd, hb]
theorem good_marks {e : Nat → Nat → Bool} {n i : Nat} {L : Nat → Bool} (hi : i < n) : (L i && good e n L i) = (L i && FR e n L n false i && TT e L n (fun _ => false) i) := by
  simp [FR, TT, good, hi]
  cases L i <;> simp
theorem Tryz.underlying114 : Tryz.prog.underlying 114 = some (.slice 4) := by kernel_rfl
theorem Tryz.infoBool : (Tryz.prog.info? 4).map (fun i => (i.zero, i.size, i.bytes)) = some (some (.bool false), 1, 1) := by kernel_rfl
set_option maxRecDepth 10000 in
set_option maxHeartbeats 400000 in
theorem ilively (v : Value) (nx : List (List Int)) (w : World) (h : Mat w v nx) (n : Nat) (hL : nx.length = n) (hn1 : n ≤ 1000) (hr : ∀ (i : Nat) (r : List Int), nx[i]? = some r → r.length ≤ 4000000 ∧ ∀ x ∈ r, 0 ≤ x ∧ x < n) :
    Calls Tryz.prog 119 #[v] w fun e w' => ∃ v', e = .returned v' ∧ Own 4 w.heap.size w' v' (bls n (lv (nxE nx) n)) ∧ Below w.heap.size w w' := by
  obtain ⟨a, n', cap, rfl, HL, hn, HC⟩ := h.open
  have hnn : n' = n := by have := HL.out; omega
  subst hnn
  clear h
  have HR := Lib.hid hr; clear hr
  have HLL := Lib.hid hL; clear hL
  have hmk := fun w => run_make_row' (P := Tryz.prog) 114 4 (.bool false) 1 Tryz.underlying114 Tryz.infoBool rfl .i64 .i64 n' (by omega) (by omega) w
  go_enter Tryz.func119, Tryz.ntmps119
  have hse0 := Own.falses 4 w n' (by omega)
  go_wp2
  go_loopw [17] (fun i wr => ∃ k : Nat, k ≤ n' ∧ i = .int .i64 k ∧ Own 4 w.heap.size wr (.slice (some ⟨w.heap.size, 0, none⟩) n' n') (bls n' fun b => decide (b < k)) ∧ Below w.heap.size w wr ∧ w.heap.size + 1 ≤ wr.heap.size) (fun i _ => n' - (intOf i).toNat)
  case atStart => exact ⟨0, Nat.zero_le _, rfl, by simpa using hse0, below_alloc _ _, by simp⟩
  case round =>
    obtain ⟨k, hk, rfl, hse, hb, hsz⟩ := hrel
    by_cases hlt : k < n'
    · obtain ⟨gs, cs, hv, -, hgs1, hfr, hst⟩ := hse.at (bls_get (g := fun b => decide (b < k)) hlt)
      rw [bls_length] at hv
      simp only [Value.slice.injEq, Option.some.injEq, Addr.mk.injEq] at hv
      obtain ⟨⟨hgw, -⟩, -⟩ := hv
      subst hgw
      have hs3 := (hst (.bool true)).1
      rw [fill_set] at hs3
      clear hst
      go_wp2
      go_roundw
      case rel => exact ⟨k + 1, by omega, by go_num, hs3, hb.setCell (Nat.le_refl _) _, by simpa using hsz⟩
      case measure => simp [intOf]; omega
    · have e : n' = k := by omega
      subst e
      have hse2 : Own 4 w.heap.size wr (.slice (some ⟨w.heap.size, 0, none⟩) n' n') (bls n' (rnd (nxE nx) n' 0)) := by
        rw [show bls n' (rnd (nxE nx) n' 0) = bls n' fun b => decide (b < n') from bls_congr fun j hj => by simp [hj, rnd]]; exact hse
      clear hse
      go_wp2
      go_loopw [26] (fun i wr => ∃ t : Nat, t ≤ n' ∧ i = .int .i64 t ∧ Own 4 w.heap.size wr (.slice (some ⟨w.heap.size, 0, none⟩) n' n') (bls n' (rnd (nxE nx) n' t)) ∧ Below w.heap.size w wr ∧ w.heap.size + 1 ≤ wr.heap.size) (fun i _ => n' - (intOf i).toNat)
      case atStart => exact ⟨0, Nat.zero_le _, rfl, hse2, hb, hsz⟩
      case round =>
        clear hse2 hb hsz
        obtain ⟨t, ht, rfl, hse, hb, hsz⟩ := hrel
        by_cases hltt : t < n'
        · obtain ⟨L, hLe⟩ : ∃ L, rnd (nxE nx) n' t = L := ⟨_, rfl⟩
          have HT : Hid (∀ b, rnd (nxE nx) n' (t + 1) b = (L b && good (nxE nx) n' L b)) := Lib.hid fun b => by rw [← hLe]; rfl
          rw [hLe] at hse
          clear hLe
          obtain ⟨wo, rfl⟩ : ∃ wo : World, wo = wr := ⟨_, rfl⟩
          go_wp2
          go_region
          · obtain ⟨wz, hwz⟩ : ∃ wz, World.drew ((wo.alloc (.cells (madeCells #[.bool false] n') 4)).alloc (.cells (madeCells #[.bool false] n') 4)) = wz := ⟨_, rfl⟩
            have hw1 := below_alloc wo (.cells (madeCells #[.bool false] n') 4)
            have hw2 := below_alloc (wo.alloc (.cells (madeCells #[.bool false] n') 4)) (.cells (madeCells #[.bool false] n') 4)
            have hw3 : ∀ B, Below B ((wo.alloc (.cells (madeCells #[.bool false] n') 4)).alloc (.cells (madeCells #[.bool false] n') 4)) wz := fun B => by rw [← hwz]; exact (Below.refl B _).drew
            have F1 : Own 4 wo.heap.size wz (.slice (some ⟨wo.heap.size, 0, none⟩) n' n') (bls n' fun _ => false) := ((Own.falses 4 wo n' (by omega)).keep hw2).keep (hw3 _)
            have F2 : Own 4 wo.heap.size wz (.slice (some ⟨wo.heap.size + 1, 0, none⟩) n' n') (bls n' fun _ => false) := by
              have h := (Own.falses 4 (wo.alloc (.cells (madeCells #[.bool false] n') 4)) n' (by omega)).keep (hw3 _)
              exact (by simpa using h : Own 4 (wo.heap.size + 1) wz (.slice (some ⟨wo.heap.size + 1, 0, none⟩) n' n') (bls n' fun _ => false)).mono (by omega)
            have hb1 : Below wo.heap.size wo wz := (hw1.trans (hw2.mono (by simp))).trans (hw3 _)
            have hz : wo.heap.size + 2 ≤ wz.heap.size := by have := (hw3 0).size; simp at this; omega
            rw [hwz]
            clear hwz hw1 hw2 hw3
            obtain ⟨bf, hbf⟩ : ∃ bf, bf = wo.heap.size + 0 := ⟨_, rfl⟩
            obtain ⟨bt, hbt⟩ : ∃ bt, bt = wo.heap.size + 1 := ⟨_, rfl⟩
            have hne : bf ≠ bt := by omega
            have hbf2 : wo.heap.size ≤ bf := by omega
            have hbt2 : wo.heap.size ≤ bt := by omega
            rw [← hbt] at F2 ⊢
            rw [← (show bf = wo.heap.size from hbf)] at F1 ⊢
            have hse3 := hse.keep (hb1.mono (Nat.le_refl _))
            clear hbf hbt
            have HF := F1.mono hbf2
            have HO := F2
            clear F1 F2
            go_wp2
            go_loopw [36] (fun i wq => ∃ i' : Nat, i' ≤ n' ∧ i = .int .i64 i' ∧ Own 4 w.heap.size wq (.slice (some ⟨w.heap.size, 0, none⟩) n' n') (bls n' L) ∧ Own 4 wo.heap.size wq (.slice (some ⟨bf, 0, none⟩) n' n') (bls n' (FR (nxE nx) n' L i' false)) ∧ Own 4 wo.heap.size wq (.slice (some ⟨bt, 0, none⟩) n' n') (bls n' (TT (nxE nx) L i' fun _ => false)) ∧ Below w.heap.size w wq ∧ wo.heap.size ≤ wq.heap.size) (fun i _ => n' - (intOf i).toNat)
            case atStart => exact ⟨0, Nat.zero_le _, rfl, hse3, by rw [FR_zero]; exact HF, by rw [TT_zero]; exact HO, hb.trans (hb1.mono (by omega)), by omega⟩
            case round =>
              clear hse3 HF HO hb1 hz hse
              obtain ⟨i, hi, rfl, hse4, HF, HO, hb4, hsz4⟩ := hrel
              by_cases hlti : i < n'
              · obtain ⟨p, off, u, r, rfl, hc, HX, hu⟩ := HC.out i hlti
                obtain ⟨a', n2, cap', rfl, HL', hn', HC'⟩ := hu.open
                clear hu
                have hc1 := cell_keep hb4 hc
                have HRR := Lib.hid (HR.out i r HX.out)
                go_wp2
                go_loopw [43] (fun j wq => ∃ j' : Nat, j' ≤ n2 ∧ j = .int .i64 j' ∧ Own 4 w.heap.size wq (.slice (some ⟨w.heap.size, 0, none⟩) n' n') (bls n' L) ∧ Own 4 wo.heap.size wq (.slice (some ⟨bf, 0, none⟩) n' n') (bls n' (FR (nxE nx) n' L i ((r.take j').any fun x => L x.toNat))) ∧ Own 4 wo.heap.size wq (.slice (some ⟨bt, 0, none⟩) n' n') (bls n' (TT (nxE nx) L i fun b => decide ((b : Int) ∈ r.take j'))) ∧ Below w.heap.size w wq ∧ wo.heap.size ≤ wq.heap.size) (fun j _ => n2 - (intOf j).toNat)
                case atStart => exact ⟨0, Nat.zero_le _, rfl, hse4, by simpa using HF, by simpa using HO, hb4, hsz4⟩
                case round =>
                  clear hse4 HF HO hc1 hb4 hsz4
                  obtain ⟨j, hj, rfl, hse4, HF, HO, hb4, hsz4⟩ := hrel
                  by_cases hltj : j < n2
                  · obtain ⟨q1, off1, x, rfl, hc', HX'⟩ := HC'.out j hltj
                    have hx := HRR.out.2 x (List.mem_of_getElem? HX'.out)
                    obtain ⟨k, rfl⟩ : ∃ k : Nat, x = k := ⟨x.toNat, by omega⟩
                    have hltk : k < n' := by omega
                    have hc1' := cell_keep hb4 hc'
                    have hs4 := hb4.size
                    obtain ⟨gs, cs, hv, -, hci, -, -⟩ := hse4.at (bls_get (g := L) hlti)
                    rw [bls_length] at hv
                    simp only [Value.slice.injEq, Option.some.injEq, Addr.mk.injEq] at hv
                    obtain ⟨⟨hgw, -⟩, -⟩ := hv
                    rw [← hgw] at hci 
                    clear hgw
                    obtain ⟨gs, cs, hv, -, hck, -, -⟩ := hse4.at (bls_get (g := L) hltk)
                    rw [bls_length] at hv
                    simp only [Value.slice.injEq, Option.some.injEq, Addr.mk.injEq] at hv
                    obtain ⟨⟨hgw, -⟩, -⟩ := hv
                    rw [← hgw] at hck 
                    clear hgw
                    have HA : Hid (((r.take (j + 1)).any fun x => L x.toNat) = (((r.take j).any fun x => L x.toNat) || L k)) := Lib.hid (by rw [take_snoc HX'.out]; simp)
                    have HM : Hid ((fun b : Nat => decide ((b : Int) ∈ r.take (j + 1))) = fun b : Nat => decide ((b : Int) ∈ r.take j) || decide (b = k)) := Lib.hid (by funext b; rw [take_snoc HX'.out]; simp [Int.ofNat_inj])
                    obtain ⟨li, hli⟩ : ∃ b, L i = b := ⟨_, rfl⟩
                    obtain ⟨lk, hlk⟩ : ∃ b, L k = b := ⟨_, rfl⟩
                    rw [hli] at hci
                    rw [hlk] at hck
                    have HLI := Lib.hid hli
                    have HLK := Lib.hid hlk
                    clear hli hlk hc' hx
                    cases li
                    case false =>
                      have HF5 := (FR_skip (e := nxE nx) (n := n') (c := (r.take j).any fun x => L x.toNat) (c' := (r.take (j + 1)).any fun x => L x.toNat) (.inl HLI.out)) ▸ HF
                      have HO5 := (TT_skip (e := nxE nx) (n := n') (k := k) (p := fun b => decide ((b : Int) ∈ r.take j)) (.inl HLI.out)) ▸ HO
                      go_wp2
                      go_roundw
                      case rel => exact ⟨j + 1, by omega, by go_num, hse4, HF5, by rw [HM.out]; exact HO5, hb4, hsz4⟩
                      case measure => simp [intOf]; omega
                    case true =>
                      cases lk
                      case false =>
                        have HF5 := (FR_skip (e := nxE nx) (n := n') (L := L) (i := i) (c := (r.take j).any fun x => L x.toNat) (c' := (r.take (j + 1)).any fun x => L x.toNat) (.inr (by rw [HA.out, HLK.out, Bool.or_false]))) ▸ HF
                        have HO5 := (TT_skip (e := nxE nx) (n := n') (i := i) (p := fun b => decide ((b : Int) ∈ r.take j)) (.inr HLK.out)) ▸ HO
                        go_wp2
                        go_roundw
                        case rel => exact ⟨j + 1, by omega, by go_num, hse4, HF5, by rw [HM.out]; exact HO5, hb4, hsz4⟩
                        case measure => simp [intOf]; omega
                      case true =>
                        obtain ⟨gs, cs, hv, -, hcf, hff, hstf⟩ := HF.at (bls_get (g := FR (nxE nx) n' L i ((r.take j).any fun x => L x.toNat)) hlti)
                        rw [bls_length] at hv
                        simp only [Value.slice.injEq, Option.some.injEq, Addr.mk.injEq] at hv
                        obtain ⟨⟨hgw, -⟩, -⟩ := hv
                        rw [← hgw] at hcf hff hstf
                        clear hgw
                        obtain ⟨HF5, hgf⟩ := hstf (.bool true)
                        rw [FR_set HLI.out] at HF5
                        have HO4 := HO.grown hgf (.inr fun e => hne (by simpa [Value.ownBlock] using e.symm))
                        have hse5 := hse4.grown hgf (.inr fun e => by have := hse4.lt bf (by simpa [Value.ownBlock] using e); simp [Value.ownBlock] at e; omega)
                        have hb5 : Below w.heap.size w (wr.setCell ⟨bf, i, none⟩ (.bool true)) := hb4.setCell (by show w.heap.size ≤ bf; omega) _
                        obtain ⟨gs, cs, hv, -, hco, hfo, hsto⟩ := HO4.at (bls_get (g := TT (nxE nx) L i fun b => decide ((b : Int) ∈ r.take j)) hltk)
                        rw [bls_length] at hv
                        simp only [Value.slice.injEq, Option.some.injEq, Addr.mk.injEq] at hv
                        obtain ⟨⟨hgw, -⟩, -⟩ := hv
                        rw [← hgw] at hco hfo hsto
                        clear hgw
                        obtain ⟨HO5, hgo⟩ := hsto (.bool true)
                        rw [TT_set HLI.out HLK.out] at HO5
                        have HF6 := HF5.grown hgo (.inr fun e => hne (by simpa [Value.ownBlock] using e))
                        have hse6 := hse5.grown hgo (.inr fun e => by simp [Value.ownBlock] at e; omega)
                        have hb6 : Below w.heap.size w ((wr.setCell ⟨bf, i, none⟩ (.bool true)).setCell ⟨bt, k, none⟩ (.bool true)) := hb5.setCell (by show w.heap.size ≤ bt; omega) _
                        clear hstf hsto HF5 hse5 HO4
                        go_wp2
                        go_roundw
                        case rel => exact ⟨j + 1, by omega, by go_num, hse6, by rw [HA.out, HLK.out, Bool.or_true]; exact HF6, by rw [HM.out]; exact HO5, hb6, by simpa using hsz4⟩
                        case measure => simp [intOf]; omega
                  · have e : n2 = j := by omega
                    subst e
                    have HF5 : Own 4 wo.heap.size wr (.slice (some ⟨bf, 0, none⟩) n' n') (bls n' (FR (nxE nx) n' L (i + 1) false)) := by
                      rw [← FR_row, ← any_frTo (nxE_of HX.out) HRR.out.2]
                      rw [← HL'.out, List.take_length] at HF
                      exact HF
                    have HO5 : Own 4 wo.heap.size wr (.slice (some ⟨bt, 0, none⟩) n' n') (bls n' (TT (nxE nx) L (i + 1) fun _ => false)) := by
                      rw [← TT_row fun b => (nxE_of HX.out b).symm]
                      rw [← HL'.out, List.take_length] at HO
                      exact HO
                    clear HF HO
                    go_wp2
                    go_roundw
                    case rel => exact ⟨i + 1, by omega, by go_num, hse4, HF5, HO5, hb4, hsz4⟩
                    case measure => simp [intOf]; omega
              · have e : n' = i := by omega
                subst e
                go_wp2
                go_loopw [67] (fun i wq => ∃ i' : Nat, i' ≤ n' ∧ i = .int .i64 i' ∧ Own 4 w.heap.size wq (.slice (some ⟨w.heap.size, 0, none⟩) n' n') (bls n' (upTo (nxE nx) n' L i')) ∧ Own 4 wo.heap.size wq (.slice (some ⟨bf, 0, none⟩) n' n') (bls n' (FR (nxE nx) n' L n' false)) ∧ Own 4 wo.heap.size wq (.slice (some ⟨bt, 0, none⟩) n' n') (bls n' (TT (nxE nx) L n' fun _ => false)) ∧ Below w.heap.size w wq ∧ wo.heap.size ≤ wq.heap.size) (fun i _ => n' - (intOf i).toNat)
                case atStart => exact ⟨0, Nat.zero_le _, rfl, by rw [upTo_zero]; exact hse4, HF, HO, hb4, hsz4⟩
                case round =>
                  clear hse4 HF HO hb4 hsz4
                  obtain ⟨i, hi, rfl, hse4, HF, HO, hb4, hsz4⟩ := hrel
                  by_cases hlti : i < n'
                  · have hg9 := good_marks (e := nxE nx) (L := L) hlti
                    have hup : upTo (nxE nx) n' L i i = L i := by simp [upTo]
                    obtain ⟨gs, cs, hv, -, hci, hfi, hsti⟩ := hse4.at (bls_get (g := upTo (nxE nx) n' L i) hlti)
                    rw [bls_length] at hv
                    simp only [Value.slice.injEq, Option.some.injEq, Addr.mk.injEq] at hv
                    obtain ⟨⟨hgw, -⟩, -⟩ := hv
                    rw [← hgw] at hci hfi hsti
                    clear hgw
                    rw [hup] at hci
                    obtain ⟨gs, cs, hv, -, hcf, -, -⟩ := HF.at (bls_get (g := FR (nxE nx) n' L n' false) hlti)
                    rw [bls_length] at hv
                    simp only [Value.slice.injEq, Option.some.injEq, Addr.mk.injEq] at hv
                    obtain ⟨⟨hgw, -⟩, -⟩ := hv
                    rw [← hgw] at hcf 
                    clear hgw
                    obtain ⟨gs, cs, hv, -, hco, -, -⟩ := HO.at (bls_get (g := TT (nxE nx) L n' fun _ => false) hlti)
                    rw [bls_length] at hv
                    simp only [Value.slice.injEq, Option.some.injEq, Addr.mk.injEq] at hv
                    obtain ⟨⟨hgw, -⟩, -⟩ := hv
                    rw [← hgw] at hco 
                    clear hgw
                    obtain ⟨hse5, hg5⟩ := hsti (.bool (L i && good (nxE nx) n' L i))
                    rw [upTo_set] at hse5
                    have HF5 := HF.grown hg5 (.inr fun e => by simp [Value.ownBlock] at e; omega)
                    have HO5 := HO.grown hg5 (.inr fun e => by simp [Value.ownBlock] at e; omega)
                    have hb5 : Below w.heap.size w (wr.setCell ⟨w.heap.size, i, none⟩ (.bool (L i && good (nxE nx) n' L i))) := hb4.setCell (Nat.le_refl _) _
                    rw [hg9] at hse5 HF5 HO5 hb5
                    clear hsti hg5 hg9 hup
                    obtain ⟨x, hx⟩ : ∃ x, L i = x := ⟨_, rfl⟩
                    obtain ⟨y, hy⟩ : ∃ y, FR (nxE nx) n' L n' false i = y := ⟨_, rfl⟩
                    obtain ⟨z, hz⟩ : ∃ z, TT (nxE nx) L n' (fun _ => false) i = z := ⟨_, rfl⟩
                    rw [hx, hy, hz] at hse5 HF5 HO5 hb5
                    rw [hx] at hci
                    rw [hy] at hcf
                    rw [hz] at hco
                    clear hx hy hz hse4 HF HO
                    cases x <;> cases y <;> cases z <;> (simp only [Bool.and_true, Bool.and_false] at hse5 HF5 HO5 hb5; go_wp2; go_roundw; (case rel => exact ⟨i + 1, by omega, by go_num, hse5, HF5, HO5, hb5, by simpa using hsz4⟩); (case measure => simp [intOf]; omega))
                  · have e : n' = i := by omega
                    subst e
                    have hlast : bls n' (upTo (nxE nx) n' L n') = bls n' (rnd (nxE nx) n' (t + 1)) := bls_congr fun b hb => by rw [HT.out b]; unfold upTo; rw [if_pos hb]
                    rw [hlast] at hse4
                    clear hlast
                    go_wp2
                    go_roundw
                    case rel => exact ⟨t + 1, by omega, by go_num, hse4, hb4, by omega⟩
                    case measure => simp [intOf]; omega
          · obtain ⟨wz, hwz⟩ : ∃ wz, World.drew ((wo.alloc (.cells (madeCells #[.bool false] n') 4)).alloc (.cells (madeCells #[.bool false] n') 4)) = wz := ⟨_, rfl⟩
            have hw1 := below_alloc wo (.cells (madeCells #[.bool false] n') 4)
            have hw2 := below_alloc (wo.alloc (.cells (madeCells #[.bool false] n') 4)) (.cells (madeCells #[.bool false] n') 4)
            have hw3 : ∀ B, Below B ((wo.alloc (.cells (madeCells #[.bool false] n') 4)).alloc (.cells (madeCells #[.bool false] n') 4)) wz := fun B => by rw [← hwz]; exact (Below.refl B _).drew
            have F1 : Own 4 wo.heap.size wz (.slice (some ⟨wo.heap.size, 0, none⟩) n' n') (bls n' fun _ => false) := ((Own.falses 4 wo n' (by omega)).keep hw2).keep (hw3 _)
            have F2 : Own 4 wo.heap.size wz (.slice (some ⟨wo.heap.size + 1, 0, none⟩) n' n') (bls n' fun _ => false) := by
              have h := (Own.falses 4 (wo.alloc (.cells (madeCells #[.bool false] n') 4)) n' (by omega)).keep (hw3 _)
              exact (by simpa using h : Own 4 (wo.heap.size + 1) wz (.slice (some ⟨wo.heap.size + 1, 0, none⟩) n' n') (bls n' fun _ => false)).mono (by omega)
            have hb1 : Below wo.heap.size wo wz := (hw1.trans (hw2.mono (by simp))).trans (hw3 _)
            have hz : wo.heap.size + 2 ≤ wz.heap.size := by have := (hw3 0).size; simp at this; omega
            rw [hwz]
            clear hwz hw1 hw2 hw3
            obtain ⟨bf, hbf⟩ : ∃ bf, bf = wo.heap.size + 1 := ⟨_, rfl⟩
            obtain ⟨bt, hbt⟩ : ∃ bt, bt = wo.heap.size + 0 := ⟨_, rfl⟩
            have hne : bf ≠ bt := by omega
            have hbf2 : wo.heap.size ≤ bf := by omega
            have hbt2 : wo.heap.size ≤ bt := by omega
            rw [← hbf] at F2 ⊢
            rw [← (show bt = wo.heap.size from hbt)] at F1 ⊢
            have hse3 := hse.keep (hb1.mono (Nat.le_refl _))
            clear hbf hbt
            have HF := F2
            have HO := F1.mono hbt2
            clear F1 F2
            go_wp2
            go_loopw [36] (fun i wq => ∃ i' : Nat, i' ≤ n' ∧ i = .int .i64 i' ∧ Own 4 w.heap.size wq (.slice (some ⟨w.heap.size, 0, none⟩) n' n') (bls n' L) ∧ Own 4 wo.heap.size wq (.slice (some ⟨bf, 0, none⟩) n' n') (bls n' (FR (nxE nx) n' L i' false)) ∧ Own 4 wo.heap.size wq (.slice (some ⟨bt, 0, none⟩) n' n') (bls n' (TT (nxE nx) L i' fun _ => false)) ∧ Below w.heap.size w wq ∧ wo.heap.size ≤ wq.heap.size) (fun i _ => n' - (intOf i).toNat)
            case atStart => exact ⟨0, Nat.zero_le _, rfl, hse3, by rw [FR_zero]; exact HF, by rw [TT_zero]; exact HO, hb.trans (hb1.mono (by omega)), by omega⟩
            case round =>
              clear hse3 HF HO hb1 hz hse
              obtain ⟨i, hi, rfl, hse4, HF, HO, hb4, hsz4⟩ := hrel
              by_cases hlti : i < n'
              · obtain ⟨p, off, u, r, rfl, hc, HX, hu⟩ := HC.out i hlti
                obtain ⟨a', n2, cap', rfl, HL', hn', HC'⟩ := hu.open
                clear hu
                have hc1 := cell_keep hb4 hc
                have HRR := Lib.hid (HR.out i r HX.out)
                go_wp2
                go_loopw [43] (fun j wq => ∃ j' : Nat, j' ≤ n2 ∧ j = .int .i64 j' ∧ Own 4 w.heap.size wq (.slice (some ⟨w.heap.size, 0, none⟩) n' n') (bls n' L) ∧ Own 4 wo.heap.size wq (.slice (some ⟨bf, 0, none⟩) n' n') (bls n' (FR (nxE nx) n' L i ((r.take j').any fun x => L x.toNat))) ∧ Own 4 wo.heap.size wq (.slice (some ⟨bt, 0, none⟩) n' n') (bls n' (TT (nxE nx) L i fun b => decide ((b : Int) ∈ r.take j'))) ∧ Below w.heap.size w wq ∧ wo.heap.size ≤ wq.heap.size) (fun j _ => n2 - (intOf j).toNat)
                case atStart => exact ⟨0, Nat.zero_le _, rfl, hse4, by simpa using HF, by simpa using HO, hb4, hsz4⟩
                case round =>
                  clear hse4 HF HO hc1 hb4 hsz4
                  obtain ⟨j, hj, rfl, hse4, HF, HO, hb4, hsz4⟩ := hrel
                  by_cases hltj : j < n2
                  · obtain ⟨q1, off1, x, rfl, hc', HX'⟩ := HC'.out j hltj
                    have hx := HRR.out.2 x (List.mem_of_getElem? HX'.out)
                    obtain ⟨k, rfl⟩ : ∃ k : Nat, x = k := ⟨x.toNat, by omega⟩
                    have hltk : k < n' := by omega
                    have hc1' := cell_keep hb4 hc'
                    have hs4 := hb4.size
                    obtain ⟨gs, cs, hv, -, hci, -, -⟩ := hse4.at (bls_get (g := L) hlti)
                    rw [bls_length] at hv
                    simp only [Value.slice.injEq, Option.some.injEq, Addr.mk.injEq] at hv
                    obtain ⟨⟨hgw, -⟩, -⟩ := hv
                    rw [← hgw] at hci 
                    clear hgw
                    obtain ⟨gs, cs, hv, -, hck, -, -⟩ := hse4.at (bls_get (g := L) hltk)
                    rw [bls_length] at hv
                    simp only [Value.slice.injEq, Option.some.injEq, Addr.mk.injEq] at hv
                    obtain ⟨⟨hgw, -⟩, -⟩ := hv
                    rw [← hgw] at hck 
                    clear hgw
                    have HA : Hid (((r.take (j + 1)).any fun x => L x.toNat) = (((r.take j).any fun x => L x.toNat) || L k)) := Lib.hid (by rw [take_snoc HX'.out]; simp)
                    have HM : Hid ((fun b : Nat => decide ((b : Int) ∈ r.take (j + 1))) = fun b : Nat => decide ((b : Int) ∈ r.take j) || decide (b = k)) := Lib.hid (by funext b; rw [take_snoc HX'.out]; simp [Int.ofNat_inj])
                    obtain ⟨li, hli⟩ : ∃ b, L i = b := ⟨_, rfl⟩
                    obtain ⟨lk, hlk⟩ : ∃ b, L k = b := ⟨_, rfl⟩
                    rw [hli] at hci
                    rw [hlk] at hck
                    have HLI := Lib.hid hli
                    have HLK := Lib.hid hlk
                    clear hli hlk hc' hx
                    cases li
                    case false =>
                      have HF5 := (FR_skip (e := nxE nx) (n := n') (c := (r.take j).any fun x => L x.toNat) (c' := (r.take (j + 1)).any fun x => L x.toNat) (.inl HLI.out)) ▸ HF
                      have HO5 := (TT_skip (e := nxE nx) (n := n') (k := k) (p := fun b => decide ((b : Int) ∈ r.take j)) (.inl HLI.out)) ▸ HO
                      go_wp2
                      go_roundw
                      case rel => exact ⟨j + 1, by omega, by go_num, hse4, HF5, by rw [HM.out]; exact HO5, hb4, hsz4⟩
                      case measure => simp [intOf]; omega
                    case true =>
                      cases lk
                      case false =>
                        have HF5 := (FR_skip (e := nxE nx) (n := n') (L := L) (i := i) (c := (r.take j).any fun x => L x.toNat) (c' := (r.take (j + 1)).any fun x => L x.toNat) (.inr (by rw [HA.out, HLK.out, Bool.or_false]))) ▸ HF
                        have HO5 := (TT_skip (e := nxE nx) (n := n') (i := i) (p := fun b => decide ((b : Int) ∈ r.take j)) (.inr HLK.out)) ▸ HO
                        go_wp2
                        go_roundw
                        case rel => exact ⟨j + 1, by omega, by go_num, hse4, HF5, by rw [HM.out]; exact HO5, hb4, hsz4⟩
                        case measure => simp [intOf]; omega
                      case true =>
                        obtain ⟨gs, cs, hv, -, hcf, hff, hstf⟩ := HF.at (bls_get (g := FR (nxE nx) n' L i ((r.take j).any fun x => L x.toNat)) hlti)
                        rw [bls_length] at hv
                        simp only [Value.slice.injEq, Option.some.injEq, Addr.mk.injEq] at hv
                        obtain ⟨⟨hgw, -⟩, -⟩ := hv
                        rw [← hgw] at hcf hff hstf
                        clear hgw
                        obtain ⟨HF5, hgf⟩ := hstf (.bool true)
                        rw [FR_set HLI.out] at HF5
                        have HO4 := HO.grown hgf (.inr fun e => hne (by simpa [Value.ownBlock] using e.symm))
                        have hse5 := hse4.grown hgf (.inr fun e => by have := hse4.lt bf (by simpa [Value.ownBlock] using e); simp [Value.ownBlock] at e; omega)
                        have hb5 : Below w.heap.size w (wr.setCell ⟨bf, i, none⟩ (.bool true)) := hb4.setCell (by show w.heap.size ≤ bf; omega) _
                        obtain ⟨gs, cs, hv, -, hco, hfo, hsto⟩ := HO4.at (bls_get (g := TT (nxE nx) L i fun b => decide ((b : Int) ∈ r.take j)) hltk)
                        rw [bls_length] at hv
                        simp only [Value.slice.injEq, Option.some.injEq, Addr.mk.injEq] at hv
                        obtain ⟨⟨hgw, -⟩, -⟩ := hv
                        rw [← hgw] at hco hfo hsto
                        clear hgw
                        obtain ⟨HO5, hgo⟩ := hsto (.bool true)
                        rw [TT_set HLI.out HLK.out] at HO5
                        have HF6 := HF5.grown hgo (.inr fun e => hne (by simpa [Value.ownBlock] using e))
                        have hse6 := hse5.grown hgo (.inr fun e => by simp [Value.ownBlock] at e; omega)
                        have hb6 : Below w.heap.size w ((wr.setCell ⟨bf, i, none⟩ (.bool true)).setCell ⟨bt, k, none⟩ (.bool true)) := hb5.setCell (by show w.heap.size ≤ bt; omega) _
                        clear hstf hsto HF5 hse5 HO4
                        go_wp2
                        go_roundw
                        case rel => exact ⟨j + 1, by omega, by go_num, hse6, by rw [HA.out, HLK.out, Bool.or_true]; exact HF6, by rw [HM.out]; exact HO5, hb6, by simpa using hsz4⟩
                        case measure => simp [intOf]; omega
                  · have e : n2 = j := by omega
                    subst e
                    have HF5 : Own 4 wo.heap.size wr (.slice (some ⟨bf, 0, none⟩) n' n') (bls n' (FR (nxE nx) n' L (i + 1) false)) := by
                      rw [← FR_row, ← any_frTo (nxE_of HX.out) HRR.out.2]
                      rw [← HL'.out, List.take_length] at HF
                      exact HF
                    have HO5 : Own 4 wo.heap.size wr (.slice (some ⟨bt, 0, none⟩) n' n') (bls n' (TT (nxE nx) L (i + 1) fun _ => false)) := by
                      rw [← TT_row fun b => (nxE_of HX.out b).symm]
                      rw [← HL'.out, List.take_length] at HO
                      exact HO
                    clear HF HO
                    go_wp2
                    go_roundw
                    case rel => exact ⟨i + 1, by omega, by go_num, hse4, HF5, HO5, hb4, hsz4⟩
                    case measure => simp [intOf]; omega
              · have e : n' = i := by omega
                subst e
                go_wp2
                go_loopw [67] (fun i wq => ∃ i' : Nat, i' ≤ n' ∧ i = .int .i64 i' ∧ Own 4 w.heap.size wq (.slice (some ⟨w.heap.size, 0, none⟩) n' n') (bls n' (upTo (nxE nx) n' L i')) ∧ Own 4 wo.heap.size wq (.slice (some ⟨bf, 0, none⟩) n' n') (bls n' (FR (nxE nx) n' L n' false)) ∧ Own 4 wo.heap.size wq (.slice (some ⟨bt, 0, none⟩) n' n') (bls n' (TT (nxE nx) L n' fun _ => false)) ∧ Below w.heap.size w wq ∧ wo.heap.size ≤ wq.heap.size) (fun i _ => n' - (intOf i).toNat)
                case atStart => exact ⟨0, Nat.zero_le _, rfl, by rw [upTo_zero]; exact hse4, HF, HO, hb4, hsz4⟩
                case round =>
                  clear hse4 HF HO hb4 hsz4
                  obtain ⟨i, hi, rfl, hse4, HF, HO, hb4, hsz4⟩ := hrel
                  by_cases hlti : i < n'
                  · have hg9 := good_marks (e := nxE nx) (L := L) hlti
                    have hup : upTo (nxE nx) n' L i i = L i := by simp [upTo]
                    obtain ⟨gs, cs, hv, -, hci, hfi, hsti⟩ := hse4.at (bls_get (g := upTo (nxE nx) n' L i) hlti)
                    rw [bls_length] at hv
                    simp only [Value.slice.injEq, Option.some.injEq, Addr.mk.injEq] at hv
                    obtain ⟨⟨hgw, -⟩, -⟩ := hv
                    rw [← hgw] at hci hfi hsti
                    clear hgw
                    rw [hup] at hci
                    obtain ⟨gs, cs, hv, -, hcf, -, -⟩ := HF.at (bls_get (g := FR (nxE nx) n' L n' false) hlti)
                    rw [bls_length] at hv
                    simp only [Value.slice.injEq, Option.some.injEq, Addr.mk.injEq] at hv
                    obtain ⟨⟨hgw, -⟩, -⟩ := hv
                    rw [← hgw] at hcf 
                    clear hgw
                    obtain ⟨gs, cs, hv, -, hco, -, -⟩ := HO.at (bls_get (g := TT (nxE nx) L n' fun _ => false) hlti)
                    rw [bls_length] at hv
                    simp only [Value.slice.injEq, Option.some.injEq, Addr.mk.injEq] at hv
                    obtain ⟨⟨hgw, -⟩, -⟩ := hv
                    rw [← hgw] at hco 
                    clear hgw
                    obtain ⟨hse5, hg5⟩ := hsti (.bool (L i && good (nxE nx) n' L i))
                    rw [upTo_set] at hse5
                    have HF5 := HF.grown hg5 (.inr fun e => by simp [Value.ownBlock] at e; omega)
                    have HO5 := HO.grown hg5 (.inr fun e => by simp [Value.ownBlock] at e; omega)
                    have hb5 : Below w.heap.size w (wr.setCell ⟨w.heap.size, i, none⟩ (.bool (L i && good (nxE nx) n' L i))) := hb4.setCell (Nat.le_refl _) _
                    rw [hg9] at hse5 HF5 HO5 hb5
                    clear hsti hg5 hg9 hup
                    obtain ⟨x, hx⟩ : ∃ x, L i = x := ⟨_, rfl⟩
                    obtain ⟨y, hy⟩ : ∃ y, FR (nxE nx) n' L n' false i = y := ⟨_, rfl⟩
                    obtain ⟨z, hz⟩ : ∃ z, TT (nxE nx) L n' (fun _ => false) i = z := ⟨_, rfl⟩
                    rw [hx, hy, hz] at hse5 HF5 HO5 hb5
                    rw [hx] at hci
                    rw [hy] at hcf
                    rw [hz] at hco
                    clear hx hy hz hse4 HF HO
                    cases x <;> cases y <;> cases z <;> (simp only [Bool.and_true, Bool.and_false] at hse5 HF5 HO5 hb5; go_wp2; go_roundw; (case rel => exact ⟨i + 1, by omega, by go_num, hse5, HF5, HO5, hb5, by simpa using hsz4⟩); (case measure => simp [intOf]; omega))
                  · have e : n' = i := by omega
                    subst e
                    have hlast : bls n' (upTo (nxE nx) n' L n') = bls n' (rnd (nxE nx) n' (t + 1)) := bls_congr fun b hb => by rw [HT.out b]; unfold upTo; rw [if_pos hb]
                    rw [hlast] at hse4
                    clear hlast
                    go_wp2
                    go_roundw
                    case rel => exact ⟨t + 1, by omega, by go_num, hse4, hb4, by omega⟩
                    case measure => simp [intOf]; omega
        · have e : n' = t := by omega
          subst e
          go_wp2
          go_ret
          exact ⟨_, rfl, hse, hb⟩
end Go.Proofs.YtkohadoicebojaaGreatDoor
