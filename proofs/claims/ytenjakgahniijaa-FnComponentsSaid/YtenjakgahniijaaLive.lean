/- The vertices that are left when those without arcs from or to others go: plain facts, and the specification's walk. No statement is proved here. -/
import Derived.Test.YtenjakgahniijaaCompI
import Derived.Deep.LoopGhost
namespace Go.Proofs.Ytenjakgahniijaa
open Go.RowKit Go.Deep
def nz (m : List (List Int)) (i j : Nat) : Bool := decide (0 < ent m i j)
def frTo (e : Nat → Nat → Bool) (L : Nat → Bool) (i : Nat) : Nat → Bool
  | 0 => false
  | j + 1 => frTo e L i j || (L j && e i j)
def toTo (e : Nat → Nat → Bool) (L : Nat → Bool) (i : Nat) : Nat → Bool
  | 0 => false
  | j + 1 => toTo e L i j || (L j && e j i)
def good (e : Nat → Nat → Bool) (n : Nat) (L : Nat → Bool) (i : Nat) : Bool := frTo e L i n && toTo e L i n
def rnd (m : Nat → Nat → Bool) (n : Nat) : Nat → Nat → Bool
  | 0 => fun _ => true
  | t + 1 => fun i => rnd m n t i && good m n (rnd m n t) i
def lv (m : Nat → Nat → Bool) (n : Nat) : Nat → Bool := rnd m n n
def cnt (L : Nat → Bool) : Nat → Nat
  | 0 => 0
  | k + 1 => cnt L k + (if L k = true then 1 else 0)
theorem frTo_mono {m : Nat → Nat → Bool} {L L' : Nat → Bool} {i : Nat} : ∀ {n : Nat}, (∀ j, j < n → L j = true → L' j = true) → frTo m L i n = true → frTo m L' i n = true := by
  intro n
  induction n with
  | zero => intro _ h; exact h
  | succ n ih =>
    intro hs h
    simp only [frTo, Bool.or_eq_true, Bool.and_eq_true] at h ⊢
    rcases h with h | ⟨h, h2⟩
    · exact .inl (ih (fun j hj => hs j (by omega)) h)
    · exact .inr ⟨hs n (by omega) h, h2⟩
theorem toTo_mono {m : Nat → Nat → Bool} {L L' : Nat → Bool} {i : Nat} : ∀ {n : Nat}, (∀ j, j < n → L j = true → L' j = true) → toTo m L i n = true → toTo m L' i n = true := by
  intro n
  induction n with
  | zero => intro _ h; exact h
  | succ n ih =>
    intro hs h
    simp only [toTo, Bool.or_eq_true, Bool.and_eq_true] at h ⊢
    rcases h with h | ⟨h, h2⟩
    · exact .inl (ih (fun j hj => hs j (by omega)) h)
    · exact .inr ⟨hs n (by omega) h, h2⟩
theorem good_mono {m : Nat → Nat → Bool} {n : Nat} {L L' : Nat → Bool} {i : Nat} (hs : ∀ j, j < n → L j = true → L' j = true) (h : good m n L i = true) : good m n L' i = true := by
  unfold good at *
  rw [Bool.and_eq_true] at *
  exact ⟨frTo_mono hs h.1, toTo_mono hs h.2⟩
theorem cnt_le {L L' : Nat → Bool} : ∀ {n : Nat}, (∀ j, j < n → L j = true → L' j = true) → cnt L n ≤ cnt L' n := by
  intro n
  induction n with
  | zero => intro _; exact Nat.le_refl _
  | succ n ih =>
    intro hs
    have h1 := ih fun j hj => hs j (by omega)
    have h2 := hs n (by omega)
    simp only [cnt]
    cases e : L n
    · simp; omega
    · rw [h2 e]; simp; omega
theorem cnt_lt {L L' : Nat → Bool} : ∀ {n : Nat}, (∀ j, j < n → L j = true → L' j = true) → ∀ i, i < n → L i = false → L' i = true → cnt L n + 1 ≤ cnt L' n := by
  intro n
  induction n with
  | zero => intro _ i hi; omega
  | succ n ih =>
    intro hs i hi h1 h2
    simp only [cnt]
    by_cases e : i = n
    · subst e
      have := cnt_le (n := i) fun j hj => hs j (by omega)
      rw [h1, h2]; simp; omega
    · have h3 := ih (fun j hj => hs j (by omega)) i (by omega) h1 h2
      have h4 := hs n (by omega)
      cases e2 : L n
      · simp; omega
      · rw [h4 e2]; simp; omega
theorem cnt_top (L : Nat → Bool) : ∀ n, cnt L n ≤ n := by
  intro n
  induction n with
  | zero => exact Nat.le_refl _
  | succ n ih => simp only [cnt]; split <;> omega
theorem cnt_zero {L : Nat → Bool} : ∀ {n : Nat}, cnt L n = 0 → ∀ i, i < n → L i = false := by
  intro n
  induction n with
  | zero => intro _ i hi; omega
  | succ n ih =>
    intro h i hi
    simp only [cnt] at h
    cases e : L n
    · rw [e] at h
      by_cases e2 : i = n
      · rw [e2]; exact e
      · exact ih (by simpa using h) i (by omega)
    · rw [e] at h; simp at h
theorem rnd_stable (m : Nat → Nat → Bool) (n : Nat) : ∀ t, (∀ i, i < n → rnd m n t i = true → good m n (rnd m n t) i = true) ∨ cnt (rnd m n t) n + t ≤ n := by
  intro t
  induction t with
  | zero => exact .inr (cnt_top _ _)
  | succ t ih =>
    by_cases hs : ∀ i, i < n → rnd m n t i = true → good m n (rnd m n t) i = true
    · left
      intro i hi h
      have h1 : rnd m n t i = true := by simp only [rnd, Bool.and_eq_true] at h; exact h.1
      refine good_mono (fun j hj hl => ?_) (hs i hi h1)
      simp only [rnd, Bool.and_eq_true]
      exact ⟨hl, hs j hj hl⟩
    · rcases ih with ih | ih
      · exact absurd ih hs
      · right
        have ⟨i, hi⟩ : ∃ i, ¬ (i < n → rnd m n t i = true → good m n (rnd m n t) i = true) := Classical.not_forall.1 hs
        have hin : i < n := Decidable.byContradiction fun h => hi fun h' => absurd h' h
        have hil : rnd m n t i = true := Decidable.byContradiction fun h => hi fun _ h' => absurd h' h
        have hig : good m n (rnd m n t) i = false := by
          cases e : good m n (rnd m n t) i
          · rfl
          · exact absurd (fun _ _ => e) hi
        have := cnt_lt (L := rnd m n (t + 1)) (L' := rnd m n t) (n := n) (fun j _ h => by simp only [rnd, Bool.and_eq_true] at h; exact h.1) i hin (by simp only [rnd, hig, Bool.and_false]) hil
        omega
theorem lv_post (m : Nat → Nat → Bool) (n : Nat) : ∀ i, i < n → lv m n i = true → good m n (lv m n) i = true := by
  rcases rnd_stable m n n with h | h
  · exact h
  · intro i hi hl
    have := cnt_zero (L := lv m n) (n := n) (by unfold lv; omega) i hi
    rw [this] at hl; cases hl
theorem lv_only {m : Nat → Nat → Bool} {n : Nat} {L : Nat → Bool} (hp : ∀ i, i < n → L i = true → good m n L i = true) (hl : ∀ i, i < n → lv m n i = true → L i = true) : bls n L = bls n (lv m n) := by
  have key : ∀ t i, i < n → L i = true → rnd m n t i = true := by
    intro t
    induction t with
    | zero => intro i _ _; rfl
    | succ t ih =>
      intro i hi h
      simp only [rnd, Bool.and_eq_true]
      exact ⟨ih i hi h, good_mono ih (hp i hi h)⟩
  refine bls_congr fun i hi => ?_
  rw [Bool.eq_iff_iff]
  exact ⟨key n i hi, hl i hi⟩
/-- One vertex gone. -/
def gone (L : Nat → Bool) (i : Nat) : Nat → Bool := fun b => if b = i then false else L b
theorem gone_set (n i : Nat) (L : Nat → Bool) : (bls n L).set i (.bool false) = bls n (gone L i) := bls_set n i L false
theorem gone_keeps {m : Nat → Nat → Bool} {n : Nat} {L : Nat → Bool} {i : Nat} (hl : ∀ a, a < n → lv m n a = true → L a = true) (hg : good m n L i = false) : ∀ a, a < n → lv m n a = true → gone L i a = true := by
  intro a ha h
  unfold gone
  by_cases e : a = i
  · subst e
    have := good_mono hl (lv_post m n a ha h)
    rw [hg] at this; cases this
  · rw [if_neg e]; exact hl a ha h
theorem gone_cnt {n : Nat} {L : Nat → Bool} {i : Nat} (hi : i < n) (h : L i = true) : cnt (gone L i) n + 1 ≤ cnt L n :=
  cnt_lt (fun j _ hj => by unfold gone at hj; split at hj; · cases hj
                           · exact hj) i hi (by simp [gone]) h
theorem fill_set (n k : Nat) : (bls n fun b => decide (b < k)).set k (.bool true) = bls n fun b => decide (b < k + 1) := by
  rw [bls_set]
  refine bls_congr fun b _ => ?_
  by_cases e : b = k
  · subst e; simp
  · rw [if_neg e]; simp; omega
theorem meas0 {a b g : Nat} (h1 : 2 * a + (if true = true then 1 else 0) ≤ g) (h2 : 2 * b ≤ 2 * a) : 2 * b < g := by rw [if_pos rfl] at h1; omega
theorem meas1 {a b g : Nat} (h1 : 2 * a + (if true = true then 1 else 0) ≤ g) (h2 : 2 * b + (if true = true then 2 else 0) ≤ 2 * a) : 2 * b + 1 < g := by rw [if_pos rfl] at h1 h2; omega
def lvTo (L : Nat → Bool) : Nat → List Int
  | 0 => []
  | k + 1 => lvTo L k ++ (if L k = true then [(k : Int)] else [])
def livelyOf (m : List (List Int)) : List Int := if isMat m = true then lvTo (lv (nz m) m.length) m.length else []
theorem livelyOf_yes {m : List (List Int)} (h : isMat m = true) {n : Nat} (hn : m.length = n) : livelyOf m = lvTo (lv (nz m) n) n := by subst hn; exact if_pos h
theorem livelyOf_no {m : List (List Int)} (h : isMat m = false) : livelyOf m = [] := if_neg (by simp [h])
theorem lvTo_len (L : Nat → Bool) : ∀ k, (lvTo L k).length ≤ k := by
  intro k
  induction k with
  | zero => simp [lvTo]
  | succ k ih => simp only [lvTo, List.length_append]; split <;> simp <;> omega
theorem livelyOf_len (m : List (List Int)) : (livelyOf m).length ≤ 1000 := by
  cases h : isMat m
  · rw [livelyOf_no h]; decide
  · have h9 := (isMat_len h).2
    have := lvTo_len (lv (nz m) m.length) m.length
    rw [livelyOf_yes h rfl]; omega
set_option maxRecDepth 10000 in
set_option maxHeartbeats 400000 in
theorem sl5Live (v : Value) (m : List (List Int)) (w : World) (h : Mat w v m) (hm : isMat m = true) (n : Nat) (hL : m.length = n) :
    Calls Try.prog 60 #[v] w fun e w' => ∃ v', e = .returned v' ∧ Own 4 w.heap.size w' v' (bls n (lv (nz m) n)) ∧ Below w.heap.size w w' := by
  obtain ⟨a, n', cap, rfl, HL, hn, HC⟩ := h.open
  have hnn : n' = n := by have := HL.out; omega
  subst hnn
  clear h
  have n9 : n' ≤ 9 := by have := (isMat_len hm).2; omega
  have HI := Lib.hid hm; clear hm
  have HLL := Lib.hid hL; clear hL
  have hmk := fun w => run_make_row' (P := Try.prog) 51 4 (.bool false) 1 Try.underlying51 Try.infoBool rfl .i64 .i64 n' (by omega) (by omega) w
  go_enter Try.func60, Try.ntmps60
  have hse0 := Own.falses 4 w n' (by omega)
  go_wp2
  go_loopw [4] (fun i wr => ∃ k : Nat, k ≤ n' ∧ i = .int .i64 k ∧ Own 4 w.heap.size wr (.slice (some ⟨w.heap.size, 0, none⟩) n' n') (bls n' fun b => decide (b < k)) ∧ Below w.heap.size w wr) (fun i _ => n' - (intOf i).toNat)
  case atStart => exact ⟨0, Nat.zero_le _, rfl, by simpa using hse0, below_alloc _ _⟩
  case round =>
    obtain ⟨k, hk, rfl, hse, hb⟩ := hrel
    by_cases hlt : k < n'
    · obtain ⟨gs, cs, hv, -, hgs1, hfr, hst⟩ := hse.at (bls_get (g := fun b => decide (b < k)) hlt)
      rw [bls_length] at hv
      simp only [Value.slice.injEq, Option.some.injEq, Addr.mk.injEq] at hv
      obtain ⟨⟨hgw, -⟩, -⟩ := hv
      subst hgw
      have hs3 := (hst (.bool true)).1
      rw [fill_set] at hs3
      clear hst
      go_wp2
      go_roundw
      case rel => exact ⟨k + 1, by omega, by go_num, hs3, hb.setCell (Nat.le_refl _) _⟩
      case measure => simp [intOf]; omega
    · have e : n' = k := by omega
      subst e
      have hse2 : Own 4 w.heap.size wr (.slice (some ⟨w.heap.size, 0, none⟩) n' n') (bls n' fun _ => true) := by
        rw [bls_congr (g' := fun b => decide (b < n')) fun j hj => by simp [hj]]; exact hse
      clear hse
      have HT := cnt_top (fun _ => true) n'
      go_wp2
      go_loopg [5] (2 * n' + 1) (fun gk c wr => ∃ b L, c = .bool b ∧ Own 4 w.heap.size wr (.slice (some ⟨w.heap.size, 0, none⟩) n' n') (bls n' L) ∧ Below w.heap.size w wr ∧ Hid (∀ a, a < n' → lv (nz m) n' a = true → L a = true) ∧ Hid (b = false → ∀ a, a < n' → L a = true → good (nz m) n' L a = true) ∧ Hid (2 * cnt L n' + (if b = true then 1 else 0) ≤ gk))
      case atStart => exact ⟨true, fun _ => true, rfl, hse2, hb, Lib.hid fun _ _ _ => rfl, Lib.hid (fun h => by cases h), Lib.hid (by simp; omega)⟩
      case round =>
        clear hse2 hb HT
        obtain ⟨b, L, rfl, hse, hb, hlv, hpost, hle⟩ := hrel
        cases b
        case false =>
          have HE := Lib.hid (lv_only (hpost.out rfl) hlv.out)
          go_wp2
          go_ret
          exact ⟨_, rfl, by rw [← HE.out]; exact hse, hb⟩
        case true =>
          go_wp2
          go_loopw [5, 6] (fun c i wr => ∃ b i' L', c = .bool b ∧ i = .int .i64 (i' : Nat) ∧ i' ≤ n' ∧ Own 4 w.heap.size wr (.slice (some ⟨w.heap.size, 0, none⟩) n' n') (bls n' L') ∧ Below w.heap.size w wr ∧ Hid (∀ a, a < n' → lv (nz m) n' a = true → L' a = true) ∧ Hid (b = false → ∀ a, a < i' → L' a = true → good (nz m) n' L' a = true) ∧ Hid (2 * cnt L' n' + (if b = true then 2 else 0) ≤ 2 * cnt L n')) (fun _ i _ => n' - (intOf i).toNat)
          case atStart => exact ⟨false, 0, L, rfl, rfl, Nat.zero_le _, hse, hb, hlv, Lib.hid fun _ a ha => by omega, Lib.hid (by simp)⟩
          case round =>
            clear hse hb hlv hpost
            obtain ⟨b, i, L', rfl, rfl, hi, hse, hb, hlv, hpost, hle2⟩ := hrel
            by_cases hlti : i < n'
            · obtain ⟨p, off, u, r, rfl, hc, HX, hu⟩ := HC.out i hlti
              obtain ⟨a', n2, cap', rfl, HL', hn', HC'⟩ := hu.open
              have hnn : n2 = n' := by have := isMat_row HI.out HX.out; have := HL.out; have := HL'.out; omega
              subst hnn
              clear hu
              have hc1 := cell_keep hb hc
              go_wp2
              go_loop [7, 8, 9] (fun f t j => ∃ j' : Nat, j' ≤ n2 ∧ f = .bool (frTo (nz m) L' i j') ∧ t = .bool (toTo (nz m) L' i j') ∧ j = .int .i64 j') (fun _ _ j => n2 - (intOf j).toNat)
              case atStart => exact ⟨0, Nat.zero_le _, rfl, rfl, rfl⟩
              case round =>
                obtain ⟨j, hj, rfl, rfl, rfl⟩ := hrel
                by_cases hltj : j < n2
                · obtain ⟨q1, off1, x, rfl, hc', HX'⟩ := HC'.out j hltj
                  have hc1' := cell_keep hb hc'
                  obtain ⟨q2, off2, u2, r2, hv, hc2, HX2, hu2⟩ := HC.out j hltj
                  simp only [Option.some.injEq, Addr.mk.injEq] at hv
                  obtain ⟨e1, e2, -⟩ := hv
                  subst e1 e2
                  obtain ⟨a2, n3, cap2, rfl, HL2, hn2, HC2⟩ := hu2.open
                  have hnn : n3 = n2 := by have := isMat_row HI.out HX2.out; have := HL.out; have := HL2.out; omega
                  subst hnn
                  clear hu2
                  obtain ⟨q3, off3, y, rfl, hc3, HX3⟩ := HC2.out i hlti
                  have hc12 := cell_keep hb hc2
                  have hc13 := cell_keep hb hc3
                  obtain ⟨gs, cs, hv, -, hgs1, -, -⟩ := hse.at (bls_get (g := L') hltj)
                  rw [bls_length] at hv
                  simp only [Value.slice.injEq, Option.some.injEq, Addr.mk.injEq] at hv
                  obtain ⟨⟨hgw, -⟩, -⟩ := hv
                  subst hgw
                  have HF : Hid (frTo (nz m) L' i (j + 1) = (frTo (nz m) L' i j || (L' j && decide (0 < x)))) := Lib.hid (by rw [frTo, nz, ent_of HX.out HX'.out])
                  have HT : Hid (toTo (nz m) L' i (j + 1) = (toTo (nz m) L' i j || (L' j && decide (0 < y)))) := Lib.hid (by rw [toTo, nz, ent_of HX2.out HX3.out])
                  obtain ⟨f, hf⟩ : ∃ f, frTo (nz m) L' i j = f := ⟨_, rfl⟩
                  obtain ⟨t, ht⟩ : ∃ t, toTo (nz m) L' i j = t := ⟨_, rfl⟩
                  obtain ⟨l, hl⟩ : ∃ l, L' j = l := ⟨_, rfl⟩
                  rw [hf, hl] at HF
                  rw [ht, hl] at HT
                  rw [hl] at hgs1
                  rw [hf, ht]
                  clear hf ht hl hc' hc2 hc3
                  cases f <;> cases t <;> cases l <;> (go_wp2; go_round; (case rel => exact ⟨j + 1, by omega, by rw [HF.out]; simp, by rw [HT.out]; simp, by go_num⟩); (case measure => simp [intOf]; omega))
                · have e : n2 = j := by omega
                  subst e
                  obtain ⟨gs, cs, hv, -, hgs1, hfr, hst⟩ := hse.at (bls_get (g := L') hlti)
                  rw [bls_length] at hv
                  simp only [Value.slice.injEq, Option.some.injEq, Addr.mk.injEq] at hv
                  obtain ⟨⟨hgw, -⟩, -⟩ := hv
                  subst hgw
                  have HG : Hid (good (nz m) n2 L' i = (frTo (nz m) L' i n2 && toTo (nz m) L' i n2)) := Lib.hid rfl
                  obtain ⟨f, hf⟩ : ∃ f, frTo (nz m) L' i n2 = f := ⟨_, rfl⟩
                  obtain ⟨t, ht⟩ : ∃ t, toTo (nz m) L' i n2 = t := ⟨_, rfl⟩
                  obtain ⟨l, hl⟩ : ∃ l, L' i = l := ⟨_, rfl⟩
                  rw [hf, ht] at HG ⊢
                  rw [hl] at hgs1
                  have HLI := Lib.hid hl
                  clear hf ht hl
                  have keep : (l = true → (f && t) = true) → Hid (b = false → ∀ a, a < i + 1 → L' a = true → good (nz m) n2 L' a = true) := fun hk => Lib.hid fun hb a ha h => by
                    by_cases e : a = i
                    · subst e; rw [HG.out]; exact hk (HLI.out.symm.trans h)
                    · exact hpost.out hb a (by omega) h
                  cases l
                  case false =>
                    have hk := keep (fun h => by cases h)
                    clear keep hst
                    go_wp2
                    go_roundw
                    case rel => exact ⟨b, i + 1, L', rfl, by go_num, by omega, hse, hb, hlv, hk, hle2⟩
                    case measure => simp [intOf]; omega
                  case true =>
                    by_cases hft : f = true ∧ t = true
                    · obtain ⟨rfl, rfl⟩ := hft
                      have hk := keep (fun _ => rfl)
                      clear keep hst
                      go_wp2
                      go_roundw
                      case rel => exact ⟨b, i + 1, L', rfl, by go_num, by omega, hse, hb, hlv, hk, hle2⟩
                      case measure => simp [intOf]; omega
                    · cases f <;> cases t <;> first | exact absurd ⟨rfl, rfl⟩ hft | (
                        have hs3 := (hst (.bool false)).1
                        rw [gone_set] at hs3
                        clear hst keep
                        have hk : Hid (∀ a, a < n2 → lv (nz m) n2 a = true → gone L' i a = true) := Lib.hid (gone_keeps hlv.out (by rw [HG.out]; rfl))
                        have hc9 := Lib.hid (gone_cnt hlti HLI.out)
                        go_wp2
                        go_roundw
                        (case rel => exact ⟨true, i + 1, gone L' i, rfl, by go_num, by omega, hs3, hb.setCell (Nat.le_refl _) _, hk, Lib.hid (fun h => by cases h), Lib.hid (by rw [if_pos rfl]; have := hle2.out; have := hc9.out; omega)⟩)
                        (case measure => simp [intOf]; omega))
            · have e : n' = i := by omega
              subst e
              go_wp2
              cases b
              · go_roundg (2 * cnt L' n')
                case measure => exact meas0 hle.out (Nat.le_trans (Nat.le_add_right _ _) hle2.out)
                case rel => exact ⟨false, L', rfl, hse, hb, hlv, hpost, Lib.hid (by simp)⟩
              · go_roundg (2 * cnt L' n' + 1)
                case measure => exact meas1 hle.out hle2.out
                case rel => exact ⟨true, L', rfl, hse, hb, hlv, hpost, Lib.hid (by simp)⟩
set_option maxRecDepth 10000 in
set_option maxHeartbeats 400000 in
theorem sLivelyOf (v : Value) (m : List (List Int)) (w : World) (h : Mat w v m) :
    Calls Try.prog 19 #[v] w fun e w' => ∃ v', e = .returned v' ∧ Own 3 w.heap.size w' v' (ints (livelyOf m)) ∧ Below w.heap.size w w' := by
  have hwa := below_alloc w (.cells #[] 3)
  cases hm : isMat m
  · have HI := Lib.hid hm; clear hm
    go_enter Try.func19, Try.ntmps19
    go_wp2_with (go_at_call 28; refine (sIsMatrix _ m _ (h.keep hwa)).mono ?_; rintro e w2 ⟨rfl, rfl⟩; rw [HI.out])
    go_ret
    exact ⟨_, rfl, by rw [livelyOf_no HI.out]; exact Own.empty _ _, hwa⟩
  obtain ⟨n, hn⟩ : ∃ n, m.length = n := ⟨_, rfl⟩
  have n9 : n ≤ 9 := by have := (isMat_len hm).2; omega
  have HC := Lib.hid (livelyOf_yes hm hn)
  have HI := Lib.hid hm; clear hm
  have HN := Lib.hid hn; clear hn
  go_enter Try.func19, Try.ntmps19
  go_wp2_with (first | (go_at_call 28; refine (sIsMatrix _ m _ (h.keep hwa)).mono ?_; rintro e w2 ⟨rfl, rfl⟩; rw [HI.out]) | (go_at_call 60; refine (sl5Live _ m _ (h.keep hwa) HI.out n HN.out).mono ?_; rintro e w1 ⟨v1, rfl, hse, hb0⟩; obtain ⟨av, cv, hv⟩ := hse.form rfl; rw [bls_length] at hv; subst hv))
  have hb := hwa.trans (hb0.mono (by simp))
  have how := (Own.empty 3 w).keep hb0
  have hs1 := hb.size
  go_loopw [3, 5] (fun v i wr => ∃ k : Nat, k ≤ n ∧ i = .int .i64 k ∧ Own 3 w.heap.size wr v (ints (lvTo (lv (nz m) n) k)) ∧ Own 4 (w.alloc (.cells #[] 3)).heap.size wr (.slice av n cv) (bls n (lv (nz m) n)) ∧ Below w.heap.size w wr) (fun _ i _ => n - (intOf i).toNat)
  case atStart => exact ⟨0, Nat.zero_le _, rfl, how, hse, hb⟩
  case round =>
    clear how hse hb
    obtain ⟨i, hi, rfl, ho, hse, hb⟩ := hrel
    by_cases hlt : i < n
    · obtain ⟨gs, cs, hv, -, hgs1, hfr, -⟩ := hse.at (bls_get (g := lv (nz m) n) hlt)
      rw [bls_length] at hv
      obtain ⟨rfl, -⟩ := slice_inj1 hv
      clear hv
      have HLN := Lib.hid (lvTo_len (lv (nz m) n) i)
      have hs := hb.size
      have HS : Hid (lvTo (lv (nz m) n) (i + 1) = lvTo (lv (nz m) n) i ++ (if lv (nz m) n i = true then [(i : Int)] else [])) := Lib.hid rfl
      obtain ⟨l, hl⟩ : ∃ l, lv (nz m) n i = l := ⟨_, rfl⟩
      rw [hl] at hgs1 HS
      clear hl
      cases l
      · go_wp2
        go_roundw
        case rel => exact ⟨i + 1, by omega, by go_num, by rw [HS.out]; simpa using ho, hse, hb⟩
        case measure => simp [intOf]; omega
      · have hne := (Own.other hse ho (by decide))
        go_wp2_with (at_builtin; refine app1 28 3 8 (.int .i64 0) Try.underlying28 Try.infoInt rfl ho (.int .i64 i) rfl ?h1 ?h2 hs rfl _ _ rfl rfl rfl (by simp) ?_)
        case h1 => rw [ints_length]; have := HLN.out; unfold maxLen; omega
        case h2 => rw [ints_length]; have := HLN.out; omega
        intro q' w3 hq3 hg _
        have hse3 := hse.grown hg hne
        go_wp2
        go_roundw
        case rel => exact ⟨i + 1, by omega, by go_num, by rw [HS.out]; simp only [ints, List.map_append] at hq3 ⊢; exact hq3, hse3, hb.trans (ho.below hg (Nat.le_refl _) hs)⟩
        case measure => simp [intOf]; omega
    · have e : n = i := by omega
      subst e
      go_wp2
      go_ret
      exact ⟨_, rfl, by rw [HC.out]; exact ho, hb⟩
end Go.Proofs.Ytenjakgahniijaa
