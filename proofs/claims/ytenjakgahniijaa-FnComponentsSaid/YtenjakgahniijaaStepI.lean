/- Contracts of the steps of a walk through a table, second part, and of greatest common divisors. No statement is proved here. -/
import Derived.Test.YtenjakgahniijaaStep
namespace Go.Proofs.Ytenjakgahniijaa
open Go.RowKit Go.Deep
/-- A table that is being filled: row i has the terms below k, and of term k those of the columns below j. -/
def hF (D : Nat → Nat → Nat → Int) (n i k j : Nat) : Nat → Nat → Int := fun p q => if p < i then D p q n else if p = i then (if q < j then D p q (k + 1) else D p q k) else 0
theorem hF_step (D : Nat → Nat → Nat → Int) (n i k j : Nat) (hi : i < n) : setAt (tabF n n (hF D n i k j)) i j (D i j (k + 1)) = tabF n n (hF D n i k (j + 1)) := by
  rw [setAt_tabF _ _ _ _ _ _ hi]
  apply tabF_congr
  intro p q _ _
  unfold hF
  by_cases e : p = i ∧ q = j
  · obtain ⟨rfl, rfl⟩ := e
    rw [if_pos ⟨rfl, rfl⟩, if_neg (by omega), if_pos rfl, if_pos (by omega)]
  · rw [if_neg e]
    by_cases e1 : p < i
    · rw [if_pos e1, if_pos e1]
    · rw [if_neg e1, if_neg e1]
      by_cases e2 : p = i
      · rw [if_pos e2, if_pos e2]
        by_cases e3 : q < j
        · rw [if_pos e3, if_pos (by omega)]
        · rw [if_neg e3, if_neg (by omega)]
      · rw [if_neg e2, if_neg e2]
theorem hF_col (D : Nat → Nat → Nat → Int) (n i k : Nat) : tabF n n (hF D n i k n) = tabF n n (hF D n i (k + 1) 0) := by
  apply tabF_congr
  intro p q _ hq
  unfold hF
  rw [if_pos hq, if_neg (show ¬ q < 0 by omega)]
theorem hF_row {D : Nat → Nat → Nat → Int} (hD : ∀ p q, D p q 0 = 0) (n i : Nat) : tabF n n (hF D n i n 0) = tabF n n (hF D n (i + 1) 0 0) := by
  apply tabF_congr
  intro p q _ hq
  unfold hF
  by_cases e : p < i
  · rw [if_pos e, if_pos (by omega)]
  · rw [if_neg e]
    by_cases e2 : p = i
    · rw [if_pos e2, if_neg (by omega), if_pos (by omega)]
    · rw [if_neg e2, if_neg (by omega)]
      split
      · rw [if_neg (by omega), hD]
      · rfl
theorem hF_zero {D : Nat → Nat → Nat → Int} (hD : ∀ p q, D p q 0 = 0) (n : Nat) : tabF n n (hF D n 0 0 0) = tabF n n zeroF := by
  apply tabF_congr
  intro p q _ _
  unfold hF zeroF
  rw [if_neg (by omega)]
  split
  · rw [if_neg (by omega), hD]
  · rfl
theorem hF_all (D : Nat → Nat → Nat → Int) (n : Nat) : tabF n n (hF D n n 0 0) = tabF n n (fun p q => D p q n) := by
  apply tabF_congr
  intro p q hp _
  unfold hF
  rw [if_pos hp]
theorem hF_at (D : Nat → Nat → Nat → Int) (n i k j : Nat) : hF D n i k j i j = D i j k := by
  unfold hF; rw [if_neg (by omega), if_pos rfl, if_neg (by omega)]
theorem mn3 {x y : Int} (hx : x = 0 ∨ x = 1) (hy : 0 ≤ y) : (if 1 < (if y < x then y else x) then (1 : Int) else (if y < x then y else x)) = mn x (bit y) := by
  unfold mn bit
  rcases hx with rfl | rfl <;> (repeat' split) <;> omega
set_option maxRecDepth 10000 in
set_option maxHeartbeats 1000000 in
theorem iStep (va vm : Value) (f : Nat → Nat → Int) (m : List (List Int)) (n : Nat) (w : World) (hl : m.length = n) (h : Mat w va (tabF n n f)) (k : Mat w vm m) (hf : Bits f) (hm : isMat m = true) :
    Calls Try.prog 66 #[va, vm] w fun e w' => ∃ v', e = .returned v' ∧ OwnMat 28 3 w.heap.size w' v' (tabF n n (stF m n f)) ∧ Below w.heap.size w w' := by
  obtain ⟨aa, na, ca, rfl, HL, hn, HC⟩ := h.open
  obtain ⟨ab, nb, cb, rfl, HLb, hnb, HCb⟩ := k.open
  clear h k
  have hna : n = na := by have := HL.out; rwa [tabF_length] at this
  subst hna
  have hnb2 : nb = n := by rw [← HLb.out, hl]
  subst hnb2
  have HM := Lib.hid hl; clear hl
  have n9 : nb ≤ 9 := by have := (isMat_len hm).2; have := HM.out; omega
  have HB := Lib.hid hm; clear hm
  have HF := Lib.hid hf; clear hf
  have HD : Hid (∀ p q, acc f m p q 0 = 0) := Lib.hid fun _ _ => rfl
  go_enter Try.func66, Try.ntmps66
  go_wp2_with (go_at_call 84; refine (izeros nb _ (by omega)).mono ?_; rintro e w1 ⟨v1, rfl, ho1, hb1⟩; obtain ⟨av, cv, hv⟩ := ho1.form; rw [tabF_length] at hv; subst hv)
  go_loopw [17] (fun i wr => ∃ i' : Nat, i' ≤ nb ∧ i = .int .i64 i' ∧ OwnMat 28 3 w.heap.size wr (.slice av nb cv) (tabF nb nb (hF (acc f m) nb i' 0 0)) ∧ Below w.heap.size w wr) (fun i _ => nb - (intOf i).toNat)
  case atStart => exact ⟨0, Nat.zero_le _, rfl, by rw [hF_zero HD.out]; exact ho1, hb1⟩
  case round =>
    obtain ⟨i, hi, rfl, ho, hbl⟩ := hrel
    by_cases hlt : i < nb
    · obtain ⟨b1, o1, u1, r1, rfl, hc1, HX1, hu1⟩ := HC.out i hlt
      obtain rfl : r1 = rowF nb (f i) := by have := HX1.out; rw [tabF_get hlt] at this; exact (Option.some.inj this).symm
      obtain ⟨a1, n1, c1, rfl, HL1, hn1, HC1⟩ := hu1.open
      have hnn : n1 = nb := by have := HL1.out; rw [rowF_length] at this; omega
      subst hnn
      clear hu1
      have k1 := cell_keep hbl hc1
      go_wp2
      go_loopw [24] (fun i' wr => ∃ k : Nat, k ≤ n1 ∧ i' = .int .i64 k ∧ OwnMat 28 3 w.heap.size wr (.slice av n1 cv) (tabF n1 n1 (hF (acc f m) n1 i k 0)) ∧ Below w.heap.size w wr) (fun i _ => n1 - (intOf i).toNat)
      case atStart => exact ⟨0, Nat.zero_le _, rfl, ho, hbl⟩
      case round =>
        obtain ⟨k, hk, rfl, ho, hbl⟩ := hrel
        by_cases hltk : k < n1
        · obtain ⟨b2, o2, x, rfl, hc2, HX2⟩ := HC1.out k hltk
          have HXX : Hid (f i k = x) := Lib.hid (by have := HX2.out; rw [rowF_get hltk] at this; exact Option.some.inj this)
          obtain ⟨b3, o3, u3, r3, rfl, hc3, HX3, hu3⟩ := HCb.out k hltk
          obtain ⟨a3, n3, c3, rfl, HL3, hn3, HC3⟩ := hu3.open
          have hnn : n3 = n1 := by have := isMat_row HB.out HX3.out; have := HLb.out; have := HL3.out; omega
          subst hnn
          clear hu3
          have k2 := cell_keep hbl hc2
          have k3 := cell_keep hbl hc3
          go_wp2
          go_loopw [34] (fun i' wr => ∃ j : Nat, j ≤ n3 ∧ i' = .int .i64 j ∧ OwnMat 28 3 w.heap.size wr (.slice av n3 cv) (tabF n3 n3 (hF (acc f m) n3 i k j)) ∧ Below w.heap.size w wr) (fun i _ => n3 - (intOf i).toNat)
          case atStart => exact ⟨0, Nat.zero_le _, rfl, ho, hbl⟩
          case round =>
            obtain ⟨j, hj, rfl, ho, hbl⟩ := hrel
            by_cases hltj : j < n3
            · obtain ⟨b4, o4, y, rfl, hc4, HX4⟩ := HC3.out j hltj
              have k4 := cell_keep hbl hc4
              obtain ⟨g, cg, gj, cj, hv, hg1, hg2, hgf, hgB, HST⟩ := ho.at2 (by decide) (tabF_get hlt) (rowF_get hltj)
              rw [tabF_length] at *
              rw [rowF_length] at hg1
              rw [hF_at] at hg2
              obtain ⟨rfl, rfl⟩ := slice_inj1 hv
              clear ho hv
              have ey := ent_of HX3.out HX4.out
              have bx := HF.out i k
              have hst := hF_step (acc f m) n3 i k j hlt
              obtain ⟨s, hs⟩ : ∃ s, acc f m i j k = s := ⟨_, rfl⟩
              have HD2 : Hid (acc f m i j (k + 1) = stp s x (bit y)) := Lib.hid (by rw [acc, hs, HXX.out, ey])
              rw [hs] at hg2
              rw [HXX.out] at bx
              have h1 := mn3 bx (isMat_num HB.out HX3.out HX4.out).1
              have h2 : (if s < mn x (bit y) then mn x (bit y) else s) = stp s x (bit y) := rfl
              have HS := Lib.hid hst
              clear hs ey bx hst
              go_wp2
              go_region
              go_wp2
              go_roundw
              case rel => exact ⟨j + 1, by omega, by go_num, by have h := HST.out (stp s x (bit y)); rw [← HD2.out] at h ⊢; rw [HS.out] at h; exact h, (hbl.setCell hgB _).drew⟩
              case measure => simp [intOf]; omega
            · have e : j = n3 := by omega
              subst e
              go_wp2
              go_roundw
              case rel => exact ⟨k + 1, by omega, by go_num, by rw [← hF_col]; exact ho, hbl⟩
              case measure => simp [intOf]; omega
        · have e : k = n1 := by omega
          subst e
          go_wp2
          go_roundw
          case rel => exact ⟨i + 1, by omega, by go_num, by rw [← hF_row HD.out]; exact ho, hbl⟩
          case measure => simp [intOf]; omega
    · have e : i = nb := by omega
      subst e
      go_wp2
      go_ret
      exact ⟨_, rfl, by have h := hF_all (acc f m) i; rw [h] at ho; exact ho, hbl⟩
/-- The greatest common divisor, as a number of Go's. -/
def gcdI (a b : Int) : Int := (Int.gcd a b : Int)
theorem gcd_round {a b : Int} (h : 0 ≤ a) (h2 : 0 < b) : gcdI b (a % b) = gcdI a b := by
  obtain ⟨A, rfl⟩ := Int.eq_ofNat_of_zero_le h
  obtain ⟨B, rfl⟩ := Int.eq_ofNat_of_zero_le (show 0 ≤ b by omega)
  unfold gcdI
  rw [← Int.natCast_emod, Int.gcd_natCast_natCast, Int.gcd_natCast_natCast, Nat.gcd_comm, ← Nat.gcd_rec, Nat.gcd_comm]
theorem gcd_end {a : Int} (h : 0 ≤ a) : gcdI a 0 = a := by unfold gcdI; rw [Int.gcd_zero_right]; omega
theorem l1Max (a b : Int) (w : World) : Calls Try.prog 88 #[.int .i64 a, .int .i64 b] w fun e w' => e = .returned (.int .i64 (max a b)) ∧ w = w' := by
  by_cases h : b < a
  · go_enter Try.func88, Try.ntmps88
    go_wp2
    go_ret
    exact ⟨ret_int (by omega), rfl⟩
  · go_enter Try.func88, Try.ntmps88
    go_wp2
    go_ret
    exact ⟨ret_int (by omega), rfl⟩
set_option maxRecDepth 10000 in
set_option maxHeartbeats 400000 in
theorem sGcd (a b : Int) (w : World) (ha : 0 ≤ a) (hb : 0 ≤ b) (ha2 : a ≤ 1000000) (hb2 : b ≤ 1000000) :
    Calls Try.prog 75 #[.int .i64 a, .int .i64 b] w fun e w' => e = .returned (.int .i64 (gcdI a b)) ∧ w = w' := by
  go_enter Try.func75, Try.ntmps75
  go_wp2
  go_loop [0, 1] (fun x y => ∃ p q : Int, x = .int .i64 p ∧ y = .int .i64 q ∧ 0 ≤ p ∧ 0 ≤ q ∧ p ≤ 1000000 ∧ q ≤ 1000000 ∧ Hid (gcdI p q = gcdI a b)) (fun _ y => (intOf y).toNat)
  case atStart => exact ⟨a, b, rfl, rfl, ha, hb, ha2, hb2, Lib.hid rfl⟩
  case round =>
    obtain ⟨p, q, rfl, rfl, hp, hq, hp2, hq2, HG⟩ := hrel
    by_cases h0 : q = 0
    · subst h0
      go_wp2_with (go_at_call 88; refine (l1Max _ _ _).mono ?_; rintro e w2 ⟨rfl, rfl⟩)
      go_ret
      exact ⟨ret_int (by rw [← HG.out, gcd_end hp]; omega), rfl⟩
    · have hne : (q != 0) = true := by simp [h0]
      have hq1 : 0 < q := by omega
      have m0 := Int.emod_nonneg p h0
      have m1 := Int.emod_lt_of_pos p hq1
      go_wp2
      go_round
      case rel => exact ⟨q, p % q, rfl, rfl, hq, m0, hq2, by omega, Lib.hid (by rw [gcd_round hp hq1, HG.out])⟩
      case measure => simp [intOf]; omega
set_option maxRecDepth 10000 in
set_option maxHeartbeats 400000 in
theorem iGcd (a b : Int) (w : World) (ha : 0 ≤ a) (hb : 0 ≤ b) (ha2 : a ≤ 1000000) (hb2 : b ≤ 1000000) :
    Calls Try.prog 68 #[.int .i64 a, .int .i64 b] w fun e w' => e = .returned (.int .i64 (gcdI a b)) ∧ Drawn w w' := by
  go_enter Try.func68, Try.ntmps68
  go_wp2
  go_loopw [0, 1] (fun x y wr => (∃ p q : Int, x = .int .i64 p ∧ y = .int .i64 q ∧ 0 ≤ p ∧ 0 ≤ q ∧ p ≤ 1000000 ∧ q ≤ 1000000 ∧ Hid (gcdI p q = gcdI a b)) ∧ Drawn w wr) (fun _ y _ => (intOf y).toNat)
  case atStart => exact ⟨⟨a, b, rfl, rfl, ha, hb, ha2, hb2, Lib.hid rfl⟩, Drawn.refl _⟩
  case round =>
    obtain ⟨⟨p, q, rfl, rfl, hp, hq, hp2, hq2, HG⟩, hd⟩ := hrel
    by_cases h0 : q = 0
    · subst h0
      have h3 : (if p < -p then -p else p) = p := if_neg (by omega)
      go_wp2
      go_ret
      exact ⟨ret_int (by rw [← HG.out, gcd_end hp]), hd⟩
    · have hne : (q != 0) = true := by simp [h0]
      have hq1 : 0 < q := by omega
      have m0 := Int.emod_nonneg p h0
      have m1 := Int.emod_lt_of_pos p hq1
      go_wp2
      go_quiet (fail)
      go_wp2
      go_roundw
      case rel => exact ⟨⟨q, p % q, rfl, rfl, hq, m0, hq2, by omega, Lib.hid (by rw [gcd_round hp hq1, HG.out])⟩, hd.drewN _⟩
      case measure => simp [intOf]; omega
end Go.Proofs.Ytenjakgahniijaa
