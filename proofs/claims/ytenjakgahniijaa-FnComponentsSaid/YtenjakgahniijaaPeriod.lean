/- Contracts of PeriodOf, the program's and the reference's. No statement is proved here. -/
import Derived.Test.YtenjakgahniijaaStepI
import Derived.Test.YtenjakgahniijaaMatB
namespace Go.Proofs.Ytenjakgahniijaa
open Go.RowKit Go.Deep
/-- Between which vertices there is a path of t arcs. -/
def hv (m : List (List Int)) (n : Nat) : Nat → Nat → Nat → Int
  | 0 => unitF
  | t + 1 => stF m n (hv m n t)
theorem hv_bits (m : List (List Int)) (n : Nat) : ∀ t, Bits (hv m n t) := fun t => by
  induction t with
  | zero => exact unitF_bits
  | succ t ih => exact stF_bits ih m n
def anyD (f : Nat → Nat → Int) (n : Nat) : Bool := (List.range n).any fun i => decide (f i i = 1)
def per (m : List (List Int)) (n : Nat) : Nat → Int
  | 0 => 0
  | t + 1 => if anyD (hv m n (t + 1)) n = true then gcdI (per m n t) ((t : Int) + 1) else per m n t
def periodOf (m : List (List Int)) : Int := if isMat m = true then per m m.length (2 * m.length) else 0
theorem gcdI_bd (a : Int) {b : Int} (h : 0 < b) : 0 ≤ gcdI a b ∧ gcdI a b ≤ b := by
  unfold gcdI
  refine ⟨by omega, ?_⟩
  have := Int.gcd_le_natAbs_right a (show b ≠ 0 by omega)
  omega
theorem gcdI_again (a b : Int) : gcdI (gcdI a b) b = gcdI a b := by
  unfold gcdI
  have : (Int.gcd (Int.gcd a b : Int) b) = Int.gcd a b := by
    unfold Int.gcd
    rw [Int.natAbs_natCast, Nat.gcd_assoc, Nat.gcd_self]
  rw [this]
theorem per_bd (m : List (List Int)) (n t : Nat) : 0 ≤ per m n t ∧ per m n t ≤ t := by
  induction t with
  | zero => simp [per]
  | succ t ih =>
    unfold per
    split
    · have := gcdI_bd (per m n t) (show (0 : Int) < (t : Int) + 1 by omega); omega
    · omega
theorem anyD_succ (f : Nat → Nat → Int) (n : Nat) : anyD f (n + 1) = (anyD f n || decide (f n n = 1)) := by
  unfold anyD; rw [List.range_succ]; simp
/-- The period behind the numbers below i of stage t + 1. -/
def perI (m : List (List Int)) (n t i : Nat) : Int := if anyD (hv m n (t + 1)) i = true then gcdI (per m n t) ((t : Int) + 1) else per m n t
theorem perI_zero (m : List (List Int)) (n t : Nat) : perI m n t 0 = per m n t := rfl
theorem perI_all (m : List (List Int)) (n t : Nat) : perI m n t n = per m n (t + 1) := rfl
theorem perI_yes {m : List (List Int)} {n t i : Nat} (h : hv m n (t + 1) i i = 1) : gcdI (perI m n t i) ((t : Int) + 1) = perI m n t (i + 1) := by
  unfold perI
  rw [anyD_succ, decide_eq_true h, Bool.or_true, if_pos rfl]
  split
  · exact gcdI_again _ _
  · rfl
theorem perI_no {m : List (List Int)} {n t i : Nat} (h : ¬ hv m n (t + 1) i i = 1) : perI m n t i = perI m n t (i + 1) := by
  unfold perI
  rw [anyD_succ, decide_eq_false h, Bool.or_false]
theorem perI_bd (m : List (List Int)) (n t i : Nat) : 0 ≤ perI m n t i ∧ perI m n t i ≤ t + 1 := by
  unfold perI
  have := per_bd m n t
  have := gcdI_bd (per m n t) (show (0 : Int) < (t : Int) + 1 by omega)
  split <;> omega
theorem bits_isMat {f : Nat → Nat → Int} {n : Nat} (hf : Bits f) (h1 : 1 ≤ n) (h9 : n ≤ 9) : isMat (tabF n n f) = true := by
  refine isMat_yes (tabF_length _ _ _) h1 h9 ?_
  rw [List.all_eq_true]
  intro r hr
  obtain ⟨i, hi, rfl⟩ := List.mem_map.1 hr
  refine rowOk_yes (rowF_length _ _) ?_
  rw [List.all_eq_true]
  intro x hx
  obtain ⟨j, hj, rfl⟩ := List.mem_map.1 hx
  rcases hf i j with h | h <;> rw [h] <;> decide
theorem trace_any {f : Nat → Nat → Int} {n : Nat} (hf : Bits f) : ∀ k, k ≤ n → 0 ≤ traceTo (tabF n n f) k ∧ (0 < traceTo (tabF n n f) k ↔ anyD f k = true) := by
  intro k
  induction k with
  | zero => intro _; simp [traceTo, anyD]
  | succ k ih =>
    intro hk
    have ih' := ih (by omega)
    rw [traceTo_step (tabF_get (show k < n by omega)) (rowF_get (show k < n by omega)), anyD_succ]
    rcases hf k k with h | h
    · rw [h, decide_eq_false (by omega), Bool.or_false, Int.add_zero]; exact ih'
    · rw [h, decide_eq_true rfl, Bool.or_true]
      exact ⟨by omega, ⟨fun _ => rfl, fun _ => by omega⟩⟩
set_option maxRecDepth 10000 in
set_option maxHeartbeats 400000 in
theorem sPeriodOf (v : Value) (m : List (List Int)) (w : World) (h : Mat w v m) :
    Calls Try.prog 35 #[v] w fun e w' => e = .returned (.int .i64 (periodOf m)) ∧ Below w.heap.size w w' := by
  obtain ⟨av, n, cv, rfl, HL, hn, -⟩ := h.open
  cases hm : isMat m
  · have HI := Lib.hid hm; clear hm
    go_enter Try.func35, Try.ntmps35
    go_wp2_with (go_at_call 28; refine (sIsMatrix _ m _ h).mono ?_; rintro e w2 ⟨rfl, rfl⟩; rw [HI.out])
    go_ret
    exact ⟨ret_int (by unfold periodOf; rw [HI.out]; rfl), Below.refl _ _⟩
  have n9 : n ≤ 9 := by have := (isMat_len hm).2; have := HL.out; omega
  have HI := Lib.hid hm; clear hm
  go_enter Try.func35, Try.ntmps35
  go_wp2_with fail
  refine (sIsMatrix _ m _ h).mono ?_
  rintro e w2 ⟨rfl, rfl⟩
  rw [HI.out]
  go_wp2_with fail
  refine (sOne n _ (by omega)).mono ?_
  rintro e w1 ⟨v1, rfl, ho1, hb1⟩
  go_wp2
  go_loopw [3, 4, 5] (fun p a i wr => ∃ (t : Nat) (q : Int), t ≤ 2 * n ∧ i = .int .i64 ((t : Int) + 1) ∧ p = .int .i64 q ∧ Hid (q = per m n t) ∧ OwnMat 28 3 w.heap.size wr a (tabF n n (hv m n t)) ∧ Below w.heap.size w wr) (fun _ _ i _ => (2 * n + 1 - intOf i).toNat)
  case atStart => exact ⟨0, 0, Nat.zero_le _, rfl, rfl, Lib.hid rfl, ho1, hb1⟩
  case round =>
    obtain ⟨t, q, ht, rfl, rfl, HQ, ho, hb⟩ := hrel
    by_cases hlt : t < 2 * n
    · have hs := hb.size
      go_wp2_with fail
      refine (sStep _ _ (hv m n t) m n _ HL.out ho.mat (h.keep hb) (hv_bits m n t) HI.out).mono ?_
      rintro e w2 ⟨v2, rfl, ho2, hb2⟩
      have hb3 := hb.trans (hb2.mono hs)
      obtain ⟨a2, n2, c2, rfl, HL2, hn2, HC2⟩ := ho2.mat.open
      have hn2n : n2 = n := by have := HL2.out; rw [tabF_length] at this; exact this.symm
      subst hn2n
      go_wp2
      go_loopw [3, 6] (fun p i wr => ∃ (j : Nat) (q : Int), j ≤ n2 ∧ i = .int .i64 j ∧ p = .int .i64 q ∧ Hid (q = perI m n2 t j) ∧ Hid (wr = w2)) (fun _ i _ => n2 - (intOf i).toNat)
      case atStart => exact ⟨0, q, Nat.zero_le _, rfl, rfl, Lib.hid HQ.out, Lib.hid rfl⟩
      case round =>
        obtain ⟨j, q', hj, rfl, rfl, HQ', HW⟩ := hrel
        by_cases hltj : j < n2
        · obtain ⟨b1, o1, u1, r1, rfl, hc1, HX1, hu1⟩ := HC2.out j hltj
          obtain rfl : r1 = rowF n2 (hv m n2 (t + 1) j) := by have := HX1.out; rw [tabF_get hltj] at this; exact (Option.some.inj this).symm
          obtain ⟨a3, n3, c3, rfl, HL3, hn3, HC3⟩ := hu1.open
          have hn3n : n3 = n2 := by have := HL3.out; rw [rowF_length] at this; exact this.symm
          subst hn3n
          obtain ⟨b4, o4, x, rfl, hc4, HX4⟩ := HC3.out j hltj
          have HXV : Hid (hv m n3 (t + 1) j j = x) := Lib.hid (by have := HX4.out; rw [rowF_get hltj] at this; exact Option.some.inj this)
          have hk1 := hc1
          have hk4 := hc4
          rw [← HW.out] at hk1 hk4
          have qb := perI_bd m n3 t j
          rw [← HQ'.out] at qb
          have q0 := qb.1
          have q1 : q' ≤ 20 := by omega
          clear qb hu1
          by_cases hx : x = 1
          · subst hx
            go_wp2_with (go_at_call 75; refine (sGcd _ _ _ q0 (by omega) (by omega) (by omega)).mono ?_; rintro e w3 ⟨rfl, rfl⟩)
            go_roundw
            case rel => exact ⟨j + 1, _, by omega, by go_num, rfl, Lib.hid (by rw [HQ'.out]; exact perI_yes HXV.out), HW⟩
            case measure => simp [intOf]; omega
          · have hne : (x == 1) = false := beq_eq_false_iff_ne.2 hx
            go_wp2
            go_roundw
            case rel => exact ⟨j + 1, q', by omega, by go_num, rfl, Lib.hid (by rw [HQ'.out]; exact perI_no (by rw [HXV.out]; exact hx)), HW⟩
            case measure => simp [intOf]; omega
        · have e : j = n2 := by omega
          subst e
          go_wp2
          go_roundw
          case rel => exact ⟨t + 1, q', by omega, by go_num, rfl, Lib.hid (by rw [HQ'.out, perI_all]), by rw [HW.out]; exact ho2.mono (by omega), by rw [HW.out]; exact hb3⟩
          case measure => simp [intOf]; omega
    · have e : t = 2 * n := by omega
      have HE := Lib.hid e
      clear e
      go_wp2
      go_ret
      exact ⟨ret_int (by unfold periodOf; rw [HI.out, HL.out, HQ.out, HE.out]; rfl), hb⟩
set_option maxRecDepth 10000 in
set_option maxHeartbeats 400000 in
theorem iPeriodOf (v : Value) (m : List (List Int)) (w : World) (h : Mat w v m) :
    Calls Try.prog 30 #[v] w fun e w' => e = .returned (.int .i64 (periodOf m)) ∧ Below w.heap.size w w' := by
  obtain ⟨av, n, cv, rfl, HL, hn, -⟩ := h.open
  cases hm : isMat m
  · have HI := Lib.hid hm; clear hm
    go_enter Try.func30, Try.ntmps30
    go_wp2_with (go_at_call 54; refine (iIsMatrix _ m _ h).mono ?_; rintro e w2 ⟨rfl, rfl⟩; rw [HI.out])
    go_ret
    exact ⟨ret_int (by unfold periodOf; rw [HI.out]; rfl), Below.refl _ _⟩
  have n9 : n ≤ 9 := by have := (isMat_len hm).2; have := HL.out; omega
  have n1 : 1 ≤ n := by have := (isMat_len hm).1; have := HL.out; omega
  have HI := Lib.hid hm; clear hm
  go_enter Try.func30, Try.ntmps30
  go_wp2_with fail
  refine (iIsMatrix _ m _ h).mono ?_
  rintro e w2 ⟨rfl, rfl⟩
  rw [HI.out]
  go_wp2_with fail
  refine (iunit n _ (by omega)).mono ?_
  rintro e w1 ⟨v1, rfl, ho1, hb1⟩
  go_wp2
  go_loopw [3, 4, 5] (fun p a i wr => ∃ (t : Nat) (q : Int), t ≤ 2 * n ∧ i = .int .i64 ((t : Int) + 1) ∧ p = .int .i64 q ∧ Hid (q = per m n t) ∧ OwnMat 28 3 w.heap.size wr a (tabF n n (hv m n t)) ∧ Below w.heap.size w wr) (fun _ _ i _ => (2 * n + 1 - intOf i).toNat)
  case atStart => exact ⟨0, 0, Nat.zero_le _, rfl, rfl, Lib.hid rfl, ho1, hb1⟩
  case round =>
    obtain ⟨t, q, ht, rfl, rfl, HQ, ho, hb⟩ := hrel
    by_cases hlt : t < 2 * n
    · have hs := hb.size
      have qb := per_bd m n t
      rw [← HQ.out] at qb
      have q0 := qb.1
      have q1 : q ≤ 20 := by omega
      clear qb
      go_wp2_with fail
      refine (iStep _ _ (hv m n t) m n _ HL.out ho.mat (h.keep hb) (hv_bits m n t) HI.out).mono ?_
      rintro e w2 ⟨v2, rfl, ho2, hb2⟩
      have hb3 := hb.trans (hb2.mono hs)
      have hs3 := hb3.size
      go_wp2_with fail
      refine (itrace _ _ _ ho2.mat (bits_isMat (hv_bits m n (t + 1)) n1 n9)).mono ?_
      rintro e w3 ⟨rfl, rfl⟩
      have htr := trace_any (hv_bits m n (t + 1)) n (Nat.le_refl _)
      have e1 : traceTo (tabF n n (stF m n (hv m n t))) (tabF n n (stF m n (hv m n t))).length = traceTo (tabF n n (hv m n (t + 1))) n := by rw [tabF_length]; rfl
      rw [e1]
      clear e1
      obtain ⟨T, hT⟩ : ∃ T, T = traceTo (tabF n n (hv m n (t + 1))) n := ⟨_, rfl⟩
      rw [← hT] at htr ⊢
      clear hT
      cases hd : anyD (hv m n (t + 1)) n
      · have hT0 : T ≤ 0 := by
          have := htr.2
          rw [hd] at this
          by_cases hp : 0 < T
          · exact absurd (this.1 hp) (by decide)
          · omega
        have HD := Lib.hid hd
        clear htr hd
        go_wp2
        go_roundw
        case rel => exact ⟨t + 1, q, by omega, by go_num, rfl, Lib.hid (by rw [HQ.out, per, HD.out]; rfl), ho2.mono hs, hb3⟩
        case measure => simp [intOf]; omega
      · have hT0 : 0 < T := htr.2.2 hd
        have HD := Lib.hid hd
        clear htr hd
        go_wp2_with fail
        refine (iGcd _ _ _ q0 (by omega) (by omega) (by omega)).mono ?_
        rintro e w4 ⟨rfl, hd4⟩
        go_wp2
        go_roundw
        case rel => exact ⟨t + 1, _, by omega, by go_num, rfl, Lib.hid (by rw [HQ.out, per, HD.out]; rfl), (ho2.mono hs).keep (hd4.below _), hb3.trans (hd4.below _)⟩
        case measure => simp [intOf]; omega
    · have e : t = 2 * n := by omega
      have HE := Lib.hid e
      clear e
      go_wp2
      go_ret
      exact ⟨ret_int (by unfold periodOf; rw [HI.out, HL.out, HQ.out, HE.out]; rfl), hb⟩
end Go.Proofs.Ytenjakgahniijaa
