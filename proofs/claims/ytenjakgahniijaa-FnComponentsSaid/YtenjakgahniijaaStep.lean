/- Contracts of the steps of a walk through a table and of greatest common divisors, the program's and the reference's. No statement is proved here. -/
import Derived.Test.YtenjakgahniijaaReachS
import Derived.StillTailTactics
namespace Go.Proofs.Ytenjakgahniijaa
open Go.RowKit Go.Deep
def oneF (k : Nat) : Nat → Nat → Int := fun a b => if a = b ∧ a < k then 1 else 0
def unitF : Nat → Nat → Int := fun a b => if a = b then 1 else 0
theorem oneF_step (n k : Nat) (h : k < n) : setAt (tabF n n (oneF k)) k k 1 = tabF n n (oneF (k + 1)) := by
  rw [setAt_tabF _ _ _ _ _ _ h]
  apply tabF_congr
  intro a b _ _
  unfold oneF
  by_cases e : a = k ∧ b = k
  · rw [if_pos e, if_pos (by omega)]
  · rw [if_neg e]
    by_cases e2 : a = b ∧ a < k
    · rw [if_pos e2, if_pos (by omega)]
    · rw [if_neg e2, if_neg (by omega)]
theorem oneF_zero (n : Nat) : tabF n n (oneF 0) = tabF n n zeroF := by
  apply tabF_congr; intro a b _ _; unfold oneF zeroF; rw [if_neg (by omega)]
theorem oneF_all (n : Nat) : tabF n n (oneF n) = tabF n n unitF := by
  apply tabF_congr; intro a b ha _; unfold oneF unitF
  by_cases e : a = b
  · rw [if_pos ⟨e, ha⟩, if_pos e]
  · rw [if_neg (fun h => e h.1), if_neg e]
theorem unitF_bits : Bits unitF := fun a b => by unfold unitF; split <;> simp
set_option maxRecDepth 10000 in
set_option maxHeartbeats 400000 in
theorem sOne (n : Nat) (w : World) (hn : n ≤ 100) :
    Calls Try.prog 73 #[.int .i64 n] w fun e w' => ∃ v, e = .returned v ∧ OwnMat 28 3 w.heap.size w' v (tabF n n unitF) ∧ Below w.heap.size w w' := by
  go_enter Try.func73, Try.ntmps73
  go_wp2_with (go_at_call 83; refine (sZero n n _ hn hn).mono ?_; rintro e w1 ⟨v1, rfl, ho1, hb1⟩; obtain ⟨av, cv, hv⟩ := ho1.form; rw [tabF_length] at hv; subst hv)
  go_loopw [4] (fun i wr => ∃ k : Nat, k ≤ n ∧ i = .int .i64 k ∧ OwnMat 28 3 w.heap.size wr (.slice av n cv) (tabF n n (oneF k)) ∧ Below w.heap.size w wr) (fun i _ => n - (intOf i).toNat)
  case atStart => exact ⟨0, Nat.zero_le _, rfl, by rw [oneF_zero]; exact ho1, hb1⟩
  case round =>
    obtain ⟨k, hk, rfl, ho, hb⟩ := hrel
    by_cases hlt : k < n
    · obtain ⟨g, cg, gj, cj, hv, hg1, hg2, hgf, hgB, HST⟩ := ho.at2 (by decide) (tabF_get hlt) (rowF_get hlt)
      rw [tabF_length] at *
      rw [rowF_length] at hg1
      obtain ⟨rfl, rfl⟩ := slice_inj1 hv
      clear ho hv
      go_wp2
      go_roundw
      case rel => exact ⟨k + 1, by omega, by go_num, by rw [← oneF_step n k hlt]; exact HST.out 1, hb.setCell hgB _⟩
      case measure => simp [intOf]; omega
    · have e : k = n := by omega
      subst e
      rw [oneF_all] at ho
      go_wp2
      go_ret
      exact ⟨_, rfl, ho, hb⟩
set_option maxRecDepth 10000 in
set_option maxHeartbeats 400000 in
theorem iunit (n : Nat) (w : World) (hn : n ≤ 100) :
    Calls Try.prog 65 #[.int .i64 n] w fun e w' => ∃ v, e = .returned v ∧ OwnMat 28 3 w.heap.size w' v (tabF n n unitF) ∧ Below w.heap.size w w' := by
  go_enter Try.func65, Try.ntmps65
  go_wp2_with (go_at_call 84; refine (izeros n _ hn).mono ?_; rintro e w1 ⟨v1, rfl, ho1, hb1⟩; obtain ⟨av, cv, hv⟩ := ho1.form; rw [tabF_length] at hv; subst hv)
  go_loopw [9] (fun i wr => ∃ k : Nat, k ≤ n ∧ i = .int .i64 k ∧ OwnMat 28 3 w.heap.size wr (.slice av n cv) (tabF n n (oneF k)) ∧ Below w.heap.size w wr) (fun i _ => n - (intOf i).toNat)
  case atStart => exact ⟨0, Nat.zero_le _, rfl, by rw [oneF_zero]; exact ho1, hb1⟩
  case round =>
    obtain ⟨k, hk, rfl, ho, hb⟩ := hrel
    by_cases hlt : k < n
    · obtain ⟨g, cg, gj, cj, hv, hg1, hg2, hgf, hgB, HST⟩ := ho.at2 (by decide) (tabF_get hlt) (rowF_get hlt)
      rw [tabF_length] at *
      rw [rowF_length] at hg1
      obtain ⟨rfl, rfl⟩ := slice_inj1 hv
      clear ho hv
      go_wp2
      go_roundw
      case rel => exact ⟨k + 1, by omega, by go_num, by rw [← oneF_step n k hlt]; exact HST.out 1, hb.setCell hgB _⟩
      case measure => simp [intOf]; omega
    · have e : k = n := by omega
      subst e
      rw [oneF_all] at ho
      go_wp2
      go_ret
      exact ⟨_, rfl, ho, hb⟩
/-- Whether there is a step from p to q by way of the first k. -/
def acc (f : Nat → Nat → Int) (m : List (List Int)) (p q : Nat) : Nat → Int
  | 0 => 0
  | k + 1 => stp (acc f m p q k) (f p k) (bit (ent m k q))
theorem bit_01 (x : Int) : bit x = 0 ∨ bit x = 1 := by unfold bit; split <;> simp
theorem acc_bits {f : Nat → Nat → Int} (hf : Bits f) (m : List (List Int)) (p q : Nat) : ∀ k, acc f m p q k = 0 ∨ acc f m p q k = 1 := fun k => by
  induction k with
  | zero => exact .inl rfl
  | succ k ih => exact stp_bits ih (hf _ _) (bit_01 _)
def stF (m : List (List Int)) (n : Nat) (f : Nat → Nat → Int) : Nat → Nat → Int := fun p q => acc f m p q n
theorem stF_bits {f : Nat → Nat → Int} (hf : Bits f) (m : List (List Int)) (n : Nat) : Bits (stF m n f) := fun p q => acc_bits hf m p q n
/-- A table that is being filled, number by number, each in n steps. -/
def gF (D : Nat → Nat → Nat → Int) (n i j k : Nat) : Nat → Nat → Int := fun p q => if p < i ∨ (p = i ∧ q < j) then D p q n else if p = i ∧ q = j then D p q k else 0
theorem gF_step (D : Nat → Nat → Nat → Int) (n i j k : Nat) (hi : i < n) : setAt (tabF n n (gF D n i j k)) i j (D i j (k + 1)) = tabF n n (gF D n i j (k + 1)) := by
  rw [setAt_tabF _ _ _ _ _ _ hi]
  apply tabF_congr
  intro p q _ _
  unfold gF
  by_cases e : p = i ∧ q = j
  · obtain ⟨rfl, rfl⟩ := e
    rw [if_pos ⟨rfl, rfl⟩, if_neg (by omega), if_pos ⟨rfl, rfl⟩]
  · rw [if_neg e, if_neg e, if_neg e]
theorem gF_col {D : Nat → Nat → Nat → Int} (hD : ∀ p q, D p q 0 = 0) (n i j : Nat) : tabF n n (gF D n i j n) = tabF n n (gF D n i (j + 1) 0) := by
  apply tabF_congr
  intro p q _ _
  unfold gF
  by_cases e : p < i ∨ (p = i ∧ q < j)
  · rw [if_pos e, if_pos (by omega)]
  · rw [if_neg e]
    by_cases e2 : p = i ∧ q = j
    · rw [if_pos e2, if_pos (by omega)]
    · rw [if_neg e2, if_neg (by omega)]
      split
      · rw [hD]
      · rfl
theorem gF_row {D : Nat → Nat → Nat → Int} (hD : ∀ p q, D p q 0 = 0) (n i : Nat) : tabF n n (gF D n i n 0) = tabF n n (gF D n (i + 1) 0 0) := by
  apply tabF_congr
  intro p q _ hq
  unfold gF
  by_cases e : p < i ∨ (p = i ∧ q < n)
  · rw [if_pos e, if_pos (by omega)]
  · rw [if_neg e, if_neg (by omega), if_neg (by omega)]
    split
    · rw [hD]
    · rfl
theorem gF_zero {D : Nat → Nat → Nat → Int} (hD : ∀ p q, D p q 0 = 0) (n : Nat) : tabF n n (gF D n 0 0 0) = tabF n n zeroF := by
  apply tabF_congr
  intro p q _ _
  unfold gF zeroF
  rw [if_neg (by omega)]
  split
  · rw [hD]
  · rfl
theorem gF_all (D : Nat → Nat → Nat → Int) (n : Nat) : tabF n n (gF D n n 0 0) = tabF n n (fun p q => D p q n) := by
  apply tabF_congr
  intro p q hp _
  unfold gF
  rw [if_pos (by omega)]
theorem gF_at (D : Nat → Nat → Nat → Int) (n i j k : Nat) : gF D n i j k i j = D i j k := by
  unfold gF; rw [if_neg (by omega), if_pos ⟨rfl, rfl⟩]
set_option maxRecDepth 10000 in
set_option maxHeartbeats 400000 in
theorem sStep (va vm : Value) (f : Nat → Nat → Int) (m : List (List Int)) (n : Nat) (w : World) (hl : m.length = n) (h : Mat w va (tabF n n f)) (k : Mat w vm m) (hf : Bits f) (hm : isMat m = true) :
    Calls Try.prog 74 #[va, vm] w fun e w' => ∃ v', e = .returned v' ∧ OwnMat 28 3 w.heap.size w' v' (tabF n n (stF m n f)) ∧ Below w.heap.size w w' := by
  obtain ⟨aa, na, ca, rfl, HL, hn, HC⟩ := h.open
  obtain ⟨ab, nb, cb, rfl, HLb, hnb, HCb⟩ := k.open
  clear h k
  have hna : n = na := by have := HL.out; rwa [tabF_length] at this
  subst hna
  have hnb2 : nb = n := by rw [← HLb.out, hl]
  subst hnb2
  have HM := Lib.hid hl; clear hl
  have n9 : nb ≤ 9 := by have := (isMat_len hm).2; have := HM.out; omega
  have HB := Lib.hid hm; clear hm
  have HF := Lib.hid hf; clear hf
  have HD : Hid (∀ p q, acc f m p q 0 = 0) := Lib.hid fun _ _ => rfl
  go_enter Try.func74, Try.ntmps74
  go_wp2_with (go_at_call 83; refine (sZero nb nb _ (by omega) (by omega)).mono ?_; rintro e w1 ⟨v1, rfl, ho1, hb1⟩; obtain ⟨av, cv, hv⟩ := ho1.form; rw [tabF_length] at hv; subst hv)
  go_loopw [6] (fun i wr => ∃ i' : Nat, i' ≤ nb ∧ i = .int .i64 i' ∧ OwnMat 28 3 w.heap.size wr (.slice av nb cv) (tabF nb nb (gF (acc f m) nb i' 0 0)) ∧ Below w.heap.size w wr) (fun i _ => nb - (intOf i).toNat)
  case atStart => exact ⟨0, Nat.zero_le _, rfl, by rw [gF_zero HD.out]; exact ho1, hb1⟩
  case round =>
    obtain ⟨i, hi, rfl, ho, hbl⟩ := hrel
    by_cases hlt : i < nb
    · obtain ⟨b1, o1, u1, r1, rfl, hc1, HX1, hu1⟩ := HC.out i hlt
      obtain rfl : r1 = rowF nb (f i) := by have := HX1.out; rw [tabF_get hlt] at this; exact (Option.some.inj this).symm
      obtain ⟨a1, n1, c1, rfl, HL1, hn1, HC1⟩ := hu1.open
      have hnn : n1 = nb := by have := HL1.out; rw [rowF_length] at this; omega
      subst hnn
      clear hu1
      go_wp2
      go_loopw [7] (fun i' wr => ∃ j : Nat, j ≤ n1 ∧ i' = .int .i64 j ∧ OwnMat 28 3 w.heap.size wr (.slice av n1 cv) (tabF n1 n1 (gF (acc f m) n1 i j 0)) ∧ Below w.heap.size w wr) (fun i _ => n1 - (intOf i).toNat)
      case atStart => exact ⟨0, Nat.zero_le _, rfl, ho, hbl⟩
      case round =>
        obtain ⟨j, hj, rfl, ho, hbl⟩ := hrel
        by_cases hltj : j < n1
        · go_wp2
          go_loopw [8] (fun i' wr => ∃ k : Nat, k ≤ n1 ∧ i' = .int .i64 k ∧ OwnMat 28 3 w.heap.size wr (.slice av n1 cv) (tabF n1 n1 (gF (acc f m) n1 i j k)) ∧ Below w.heap.size w wr) (fun i _ => n1 - (intOf i).toNat)
          case atStart => exact ⟨0, Nat.zero_le _, rfl, ho, hbl⟩
          case round =>
            obtain ⟨k, hk, rfl, ho, hbl⟩ := hrel
            by_cases hltk : k < n1
            · obtain ⟨b2, o2, x, rfl, hc2, HX2⟩ := HC1.out k hltk
              have hx : f i k = x := by have := HX2.out; rw [rowF_get hltk] at this; exact Option.some.inj this
              obtain ⟨b3, o3, u3, r3, rfl, hc3, HX3, hu3⟩ := HCb.out k hltk
              obtain ⟨a3, n3, c3, rfl, HL3, hn3, HC3⟩ := hu3.open
              have hnn : n3 = n1 := by have := isMat_row HB.out HX3.out; have := HLb.out; have := HL3.out; omega
              subst hnn
              clear hu3
              obtain ⟨b4, o4, y, rfl, hc4, HX4⟩ := HC3.out j hltj
              have k1 := cell_keep hbl hc1
              have k2 := cell_keep hbl hc2
              have k3 := cell_keep hbl hc3
              have k4 := cell_keep hbl hc4
              clear hc1 hc2 hc3 hc4
              obtain ⟨g, cg, gj, cj, hv, hg1, hg2, hgf, hgB, HST⟩ := ho.at2 (by decide) (tabF_get hlt) (rowF_get hltj)
              rw [tabF_length] at *
              rw [rowF_length] at hg1
              rw [gF_at] at hg2
              obtain ⟨rfl, rfl⟩ := slice_inj1 hv
              clear ho hv
              have ey := ent_of HX3.out HX4.out
              have bs := acc_bits HF.out m i j k
              have bx := HF.out i k
              have hst := gF_step (acc f m) n3 i j k hlt
              obtain ⟨s, hs⟩ : ∃ s, acc f m i j k = s := ⟨_, rfl⟩
              have HD2 : Hid (acc f m i j (k + 1) = stp s x (bit y)) := Lib.hid (by rw [acc, hs, hx, ey])
              rw [hs] at bs hg2
              rw [hx] at bx
              have h1 := bits_and bx (bit_01 y)
              have h2 := bits_or bs bx (bit_01 y)
              have h3 := bitB_bit y
              have HS := Lib.hid hst
              clear hs hx ey bs bx hst
              go_wp2
              go_still_tail 31, (by kernel_rfl)
              still_call ((l1Bit _ _).mono fun _ _ h => ⟨h.1, h.2.symm⟩)
              rw [h3]
              repeat still_step
              refine wpStill_nil ?_
              change wpList _ _ _ _ _ wr.drew
              go_wp2
              all_goals
                go_roundw
                case rel => exact ⟨k + 1, by omega, by go_num, by have h := HST.out (stp s x (bit y)); rw [← HD2.out] at h ⊢; rw [HS.out] at h; exact h, (hbl.setCell hgB _).drew⟩
                case measure => simp [intOf]; omega
            · have e : k = n1 := by omega
              subst e
              go_wp2
              go_roundw
              case rel => exact ⟨j + 1, by omega, by go_num, by rw [← gF_col HD.out]; exact ho, hbl⟩
              case measure => simp [intOf]; omega
        · have e : j = n1 := by omega
          subst e
          go_wp2
          go_roundw
          case rel => exact ⟨i + 1, by omega, by go_num, by rw [← gF_row HD.out]; exact ho, hbl⟩
          case measure => simp [intOf]; omega
    · have e : i = nb := by omega
      subst e
      go_wp2
      go_ret
      exact ⟨_, rfl, by have h := gF_all (acc f m) i; rw [h] at ho; exact ho, hbl⟩
end Go.Proofs.Ytenjakgahniijaa
