/- Contracts of MultiplyMatrices, the program's and the reference's. No statement is proved here. -/
import Derived.Test.YtkohadoicebojaaGreatDoorMatD
namespace Go.Proofs.YtkohadoicebojaaGreatDoor
open Go.RowKit Go.Deep
/-- Row p of a times column q of b, the first k terms. -/
def dot (a b : List (List Int)) (p q : Nat) : Nat → Int
  | 0 => 0
  | k + 1 => dot a b p q k + ent a p k * ent b k q
def prodM (a b : List (List Int)) (n : Nat) : List (List Int) := tabF n n (fun p q => dot a b p q n)
def mulOk (a b : List (List Int)) : Bool := isMat a && (isMat b && (decide (a.length = b.length) && isMat (prodM a b a.length)))
def mulM (a b : List (List Int)) : List (List Int) := if mulOk a b = true then prodM a b a.length else []
theorem mul_bd {x y : Int} (hx : 0 ≤ x ∧ x ≤ 1000000) (hy : 0 ≤ y ∧ y ≤ 1000000) : 0 ≤ x * y ∧ x * y ≤ 1000000000000 :=
  ⟨Int.mul_nonneg hx.1 hy.1, by have := Int.mul_le_mul hx.2 hy.2 hy.1 (by omega); omega⟩
theorem dot_bd {a b : List (List Int)} {n : Nat} (ha : isMat a = true) (hb : isMat b = true) (hla : a.length = n) (hlb : b.length = n) {p q : Nat} (hp : p < n) (hq : q < n) : ∀ k, k ≤ n → 0 ≤ dot a b p q k ∧ dot a b p q k ≤ 1000000000000 * k := by
  intro k
  induction k with
  | zero => intro _; simp [dot]
  | succ k ih =>
    intro hk
    have h1 := ih (by omega)
    have h2 := mul_bd (isMat_ent ha (show p < a.length by omega) (show k < a.length by omega)) (isMat_ent hb (show k < b.length by omega) (show q < b.length by omega))
    simp only [dot]
    omega
def prodF (a b : List (List Int)) (n i j k : Nat) : Nat → Nat → Int := fun p q => if p < i ∨ (p = i ∧ q < j) then dot a b p q n else if p = i ∧ q = j then dot a b p q k else 0
theorem prodF_step (a b : List (List Int)) (n i j k : Nat) (hi : i < n) : setAt (tabF n n (prodF a b n i j k)) i j (dot a b i j (k + 1)) = tabF n n (prodF a b n i j (k + 1)) := by
  rw [setAt_tabF _ _ _ _ _ _ hi]
  apply tabF_congr
  intro p q _ _
  unfold prodF
  by_cases e : p = i ∧ q = j
  · obtain ⟨rfl, rfl⟩ := e
    rw [if_pos ⟨rfl, rfl⟩, if_neg (by omega), if_pos ⟨rfl, rfl⟩]
  · rw [if_neg e, if_neg e, if_neg e]
theorem prodF_col (a b : List (List Int)) (n i j : Nat) : tabF n n (prodF a b n i j n) = tabF n n (prodF a b n i (j + 1) 0) := by
  apply tabF_congr
  intro p q _ _
  unfold prodF
  by_cases e : p < i ∨ (p = i ∧ q < j)
  · rw [if_pos e, if_pos (by omega)]
  · rw [if_neg e]
    by_cases e2 : p = i ∧ q = j
    · rw [if_pos e2, if_pos (by omega)]
    · rw [if_neg e2, if_neg (by omega)]
      split <;> rfl
theorem prodF_row (a b : List (List Int)) (n i : Nat) : tabF n n (prodF a b n i n 0) = tabF n n (prodF a b n (i + 1) 0 0) := by
  apply tabF_congr
  intro p q _ hq
  unfold prodF
  by_cases e : p < i ∨ (p = i ∧ q < n)
  · rw [if_pos e, if_pos (by omega)]
  · rw [if_neg e, if_neg (by omega), if_neg (by omega)]
    split <;> rfl
theorem prodF_zero (a b : List (List Int)) (n : Nat) : tabF n n (prodF a b n 0 0 0) = tabF n n zeroF := by
  apply tabF_congr
  intro p q _ _
  unfold prodF zeroF
  rw [if_neg (by omega)]
  split <;> rfl
theorem prodF_all (a b : List (List Int)) (n : Nat) : tabF n n (prodF a b n n 0 0) = prodM a b n := by
  apply tabF_congr
  intro p q hp _
  unfold prodF
  rw [if_pos (by omega)]
theorem prodF_at (a b : List (List Int)) (n i j k : Nat) : prodF a b n i j k i j = dot a b i j k := by
  unfold prodF; rw [if_neg (by omega), if_pos ⟨rfl, rfl⟩]
set_option maxRecDepth 10000 in
set_option maxHeartbeats 400000 in
theorem sTimes (va vb : Value) (a b : List (List Int)) (w : World) (h : Mat w va a) (k : Mat w vb b) (ha : isMat a = true) (hb : isMat b = true) (hab : a.length = b.length) :
    Calls Tryz.prog 53 #[va, vb, .int .i64 a.length] w fun e w' => ∃ v', e = .returned v' ∧ OwnMat 62 3 w.heap.size w' v' (prodM a b a.length) ∧ Below w.heap.size w w' := by
  obtain ⟨aa, n, ca, rfl, HL, hn, HC⟩ := h.open
  obtain ⟨ab, nb, cb, rfl, HLb, hnb, HCb⟩ := k.open
  clear h k
  have hnn : nb = n := by rw [← HL.out, ← HLb.out, hab]
  subst hnn
  have n9 : nb ≤ 9 := by have := (isMat_len ha).2; have := HL.out; omega
  have HA := Lib.hid ha; clear ha
  have HB := Lib.hid hb; clear hb
  rw [HL.out]
  clear hab
  go_enter Tryz.func53, Tryz.ntmps53
  go_wp2_with (go_at_call 100; refine (sZero nb nb _ (by omega) (by omega)).mono ?_; rintro e w1 ⟨v1, rfl, ho1, hb1⟩)
  go_loopw [8] (fun i wr => ∃ i' : Nat, i' ≤ nb ∧ i = .int .i64 i' ∧ OwnMat 62 3 w.heap.size wr v1 (tabF nb nb (prodF a b nb i' 0 0)) ∧ Below w.heap.size w wr) (fun i _ => nb - (intOf i).toNat)
  case atStart => exact ⟨0, Nat.zero_le _, rfl, by rw [prodF_zero]; exact ho1, hb1⟩
  case round =>
    obtain ⟨i, hi, rfl, ho, hbl⟩ := hrel
    by_cases hlt : i < nb
    · obtain ⟨b1, o1, u1, r1, rfl, hc1, HX1, hu1⟩ := HC.out i hlt
      obtain ⟨a1, n1, c1, rfl, HL1, hn1, HC1⟩ := hu1.open
      have hnn : n1 = nb := by have := isMat_row HA.out HX1.out; have := HL.out; have := HL1.out; omega
      subst hnn
      clear hu1
      go_wp2
      go_loopw [9] (fun i' wr => ∃ j : Nat, j ≤ n1 ∧ i' = .int .i64 j ∧ OwnMat 62 3 w.heap.size wr v1 (tabF n1 n1 (prodF a b n1 i j 0)) ∧ Below w.heap.size w wr) (fun i _ => n1 - (intOf i).toNat)
      case atStart => exact ⟨0, Nat.zero_le _, rfl, ho, hbl⟩
      case round =>
        obtain ⟨j, hj, rfl, ho, hbl⟩ := hrel
        by_cases hltj : j < n1
        · go_wp2
          go_loopw [10] (fun i' wr => ∃ k : Nat, k ≤ n1 ∧ i' = .int .i64 k ∧ OwnMat 62 3 w.heap.size wr v1 (tabF n1 n1 (prodF a b n1 i j k)) ∧ Below w.heap.size w wr) (fun i _ => n1 - (intOf i).toNat)
          case atStart => exact ⟨0, Nat.zero_le _, rfl, ho, hbl⟩
          case round =>
            obtain ⟨k, hk, rfl, ho, hbl⟩ := hrel
            by_cases hltk : k < n1
            · obtain ⟨b2, o2, x, rfl, hc2, HX2⟩ := HC1.out k hltk
              obtain ⟨b3, o3, u3, r3, rfl, hc3, HX3, hu3⟩ := HCb.out k hltk
              obtain ⟨a3, n3, c3, rfl, HL3, hn3, HC3⟩ := hu3.open
              have hnn : n3 = n1 := by have := isMat_row HB.out HX3.out; have := HLb.out; have := HL3.out; omega
              subst hnn
              clear hu3
              obtain ⟨b4, o4, y, rfl, hc4, HX4⟩ := HC3.out j hltj
              have k1 := cell_keep hbl hc1
              have k2 := cell_keep hbl hc2
              have k3 := cell_keep hbl hc3
              have k4 := cell_keep hbl hc4
              clear hc1 hc2 hc3 hc4
              obtain ⟨g, cg, gj, cj, rfl, hg1, hg2, hgf, hgB, HST⟩ := ho.at2 (by decide) (tabF_get hlt) (rowF_get hltj)
              rw [tabF_length] at *
              rw [rowF_length] at hg1
              rw [prodF_at] at hg2
              clear ho
              have hd := dot_bd HA.out HB.out HL.out HLb.out hlt hltj k hk
              have ex := ent_of HX1.out HX2.out
              have ey := ent_of HX3.out HX4.out
              have hxy := mul_bd (isMat_num HA.out HX1.out HX2.out) (isMat_num HB.out HX3.out HX4.out)
              obtain ⟨d, hdd⟩ : ∃ d, dot a b i j k = d := ⟨_, rfl⟩
              obtain ⟨p, hp⟩ : ∃ p, x * y = p := ⟨_, rfl⟩
              rw [hdd] at hd hg2
              rw [hp] at hxy
              have HD : Hid (dot a b i j (k + 1) = d + p) := Lib.hid (by rw [dot, hdd, ex, ey, hp])
              clear hdd ex ey
              have d0 := hd.1
              have d1 : d ≤ 9000000000000 := by have := hd.2; omega
              have p0 := hxy.1
              have p1 := hxy.2
              clear hd hxy
              go_wp2
              go_region
              go_wp2
              go_roundw
              case rel => exact ⟨k + 1, by omega, by go_num, by rw [← prodF_step _ _ _ _ _ _ hlt, HD.out]; exact HST.out _, (hbl.setCell hgB _).drew⟩
              case measure => simp [intOf]; omega
            · have e : k = n1 := by omega
              subst e
              go_wp2
              go_roundw
              case rel => exact ⟨j + 1, by omega, by go_num, by rw [← prodF_col]; exact ho, hbl⟩
              case measure => simp [intOf]; omega
        · have e : j = n1 := by omega
          subst e
          go_wp2
          go_roundw
          case rel => exact ⟨i + 1, by omega, by go_num, by rw [← prodF_row]; exact ho, hbl⟩
          case measure => simp [intOf]; omega
    · have e : i = nb := by omega
      subst e
      go_wp2
      go_ret
      exact ⟨_, rfl, by rw [← prodF_all]; exact ho, hbl⟩
end Go.Proofs.YtkohadoicebojaaGreatDoor
