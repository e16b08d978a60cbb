/- All words of a length, the program's and the reference's. No statement is proved here. -/
import Derived.Test.YtkohadoicebojaaGreatDoorShift
import Derived.Test.YtkohadoicebojaaGreatDoorApp
import Derived.Test.YtkohadoicebojaaGreatDoorStepApp
import Derived.Test.YtkohadoicebojaaGreatDoorShelf
import Derived.Lib.Repeat
namespace Go.Proofs.YtkohadoicebojaaGreatDoor
open Go.RowKit Go.Deep
def ltr (x : Nat) : UInt8 := UInt8.ofNat (97 + x)
theorem ltr_nat {x : Nat} (h : x ≤ 2) : ((ltr x).toNat : Int) = 97 + (x : Int) := by
  have : x = 0 ∨ x = 1 ∨ x = 2 := by omega
  rcases this with rfl | rfl | rfl <;> rfl
def kp (k n : Nat) : Nat := k ^ n
theorem kp_zero (k : Nat) : kp k 0 = 1 := rfl
theorem kp_succ (k n : Nat) : kp k (n + 1) = kp k n * k := rfl
theorem kp_pos {k : Nat} (h : 1 ≤ k) (n : Nat) : 1 ≤ kp k n := Nat.pow_pos h
theorem kp_le {k n : Nat} (hk : k ≤ 3) (hn : n ≤ 9) : kp k n ≤ 19683 := by
  have h1 : kp k n ≤ 3 ^ n := Nat.pow_le_pow_left hk n
  have h2 : 3 ^ n ≤ 3 ^ 9 := Nat.pow_le_pow_right (by omega) hn
  have h3 : (3 : Nat) ^ 9 = 19683 := rfl
  omega
/-- The word with a number among those of a length. -/
def wrdAt (k : Nat) : Nat → Nat → List UInt8
  | 0, _ => []
  | n + 1, i => wrdAt k n (i / k) ++ [ltr (i % k)]
def word (k n i : Nat) : ByteArray := str (wrdAt k n i)
def wordsTo (k n c : Nat) : List ByteArray := (List.range c).map (word k n)
def words (k n : Nat) : List ByteArray := wordsTo k n (kp k n)
theorem wrdAt_length (k : Nat) : ∀ n i, (wrdAt k n i).length = n := by
  intro n
  induction n with
  | zero => intro i; rfl
  | succ n ih => intro i; rw [wrdAt, List.length_append, ih]; rfl
theorem word_size (k n i : Nat) : (word k n i).size = n := by unfold word; rw [str_size, wrdAt_length]
theorem wordsTo_length (k n c : Nat) : (wordsTo k n c).length = c := by simp [wordsTo]
theorem wordsTo_succ (k n c : Nat) : wordsTo k n (c + 1) = wordsTo k n c ++ [word k n c] := by simp [wordsTo, List.range_succ]
theorem wordsTo_get {k n c i : Nat} (h : i < c) : (wordsTo k n c)[i]? = some (word k n i) := by simp [wordsTo, h]
theorem word_next {k x : Nat} (hx : x < k) (t j : Nat) : word k (t + 1) (j * k + x) = word k t j ++ str [ltr x] := by
  unfold word
  have e1 : (j * k + x) / k = j := by
    rw [Nat.mul_comm, Nat.mul_add_div (by omega), Nat.div_eq_of_lt hx, Nat.add_zero]
  have e2 : (j * k + x) % k = x := by rw [Nat.mul_comm, Nat.mul_add_mod, Nat.mod_eq_of_lt hx]
  rw [wrdAt, e1, e2, str_append]
theorem wrdAt_get (k : Nat) : ∀ n i p, p < n → (wrdAt k n i)[p]? = some (ltr (i / kp k (n - 1 - p) % k)) := by
  intro n
  induction n with
  | zero => intro i p hp; omega
  | succ n ih =>
    intro i p hp
    rw [wrdAt]
    by_cases e : p = n
    · subst e
      rw [List.getElem?_append_right (by rw [wrdAt_length]; exact Nat.le_refl _), wrdAt_length, Nat.sub_self, show p + 1 - 1 - p = 0 by omega, kp_zero, Nat.div_one]
      rfl
    · rw [List.getElem?_append_left (by rw [wrdAt_length]; omega), ih (i / k) p (by omega), Nat.div_div_eq_div_mul]
      have : k * kp k (n - 1 - p) = kp k (n + 1 - 1 - p) := by
        rw [show n + 1 - 1 - p = (n - 1 - p) + 1 by omega, kp_succ, Nat.mul_comm]
      rw [this]
/-- The letters that are written, from place d on. -/
def wF (k n i d : Nat) : Nat → Value := fun p => .int .u8 (if d ≤ p then ((ltr (i / kp k (n - 1 - p) % k)).toNat : Int) else 0)
theorem wF_set {k n i d : Nat} (_ : d < n) {v : Value} (hv : v = .int .u8 ((ltr (i / kp k (n - 1 - d) % k)).toNat : Int)) (p : Nat) : (if p = d then v else wF k n i (d + 1) p) = wF k n i d p := by
  unfold wF
  by_cases e : p = d
  · subst e; rw [if_pos rfl, if_pos (Nat.le_refl _), hv]
  · rw [if_neg e]
    by_cases h : d ≤ p
    · rw [if_pos (by omega), if_pos h]
    · rw [if_neg (by omega), if_neg h]
theorem wF_start (k n i p : Nat) (hp : p < n) : wF k n i n p = .int .u8 0 := by unfold wF; rw [if_neg (by omega)]
theorem wF_end {k n i p : Nat} (hp : p < n) : (bv (wrdAt k n i))[p]? = some (wF k n i 0 p) := by
  rw [bv_get?, wrdAt_get k n i p hp]
  unfold wF; rw [if_pos (Nat.zero_le _)]; rfl
theorem Tryz.infoU8 : (Tryz.prog.info? 5).map (fun i => (i.zero, i.size, i.bytes)) = some (some (.int .u8 0), 1, 1) := by kernel_rfl
set_option maxRecDepth 10000 in
set_option maxHeartbeats 400000 in
theorem iwordAt (k n i : Nat) (w : World) (hk1 : 1 ≤ k) (hk : k ≤ 3) (hn : n ≤ 16) (hi : i ≤ 19683) :
    Calls Tryz.prog 128 #[.int .i64 k, .int .i64 n, .int .i64 i] w fun e w' => e = .returned (.string (word k n i)) ∧ Below w.heap.size w w' := by
  have hmk := fun w => run_make_row' (P := Tryz.prog) 22 5 (.int .u8 0) 1 Tryz.underlying22 Tryz.infoU8 rfl .i64 .i64 n (by omega) (by omega) w
  have hrow : (w.alloc (.cells (madeCells #[.int .u8 0] n) 5)).rowIs w.heap.size 5 n (wF k n i n) := (World.rowIs_made _ _ _ _).congr fun p hp => (wF_start k n i p hp).symm
  go_enter Tryz.func128, Tryz.ntmps128
  go_wp2
  go_loopw [2, 8] (fun q j wr => ∃ d x : Nat, d ≤ n ∧ x ≤ 19683 ∧ j = .int .i64 ((d : Int) - 1) ∧ q = .int .i64 x ∧ Hid (x = i / kp k (n - d)) ∧ Below w.heap.size w wr ∧ wr.rowIs w.heap.size 5 n (wF k n i d)) (fun _ j _ => (intOf j + 1).toNat)
  case atStart => exact ⟨n, i, Nat.le_refl _, hi, rfl, rfl, Lib.hid (by rw [Nat.sub_self, kp_zero, Nat.div_one]), (Below.refl _ _).alloc (Nat.le_refl _) _, hrow⟩
  case round =>
    obtain ⟨d, x, hd, hx, rfl, rfl, HX, hb, hr⟩ := hrel
    cases d with
    | zero =>
      have hown : Own 5 w.heap.size wr (.slice (some ⟨w.heap.size, 0, none⟩) n n) (bv (wrdAt k n i)) := Own.of_rowIs hr (Nat.le_refl _) (by rw [bv_length, wrdAt_length]) (by unfold maxLen; omega) fun p hp => wF_end hp
      have hs := run_str_own (P := Tryz.prog) wr 22 5 Tryz.underlying22 Tryz.underlying5 hown 9 Tryz.underlying9
      go_wp2
      go_ret
      exact ⟨rfl, hb⟩
    | succ d =>
      have hdn : d < n := by omega
      have e1 : (((d + 1 : Nat) : Int) - 1) = (d : Int) := by omega
      rw [e1]
      clear e1
      obtain ⟨y, hy⟩ : ∃ y, x % k = y := ⟨_, rfl⟩
      have hyk : y < k := by rw [← hy]; exact Nat.mod_lt _ hk1
      have hy2 : y ≤ 2 := by omega
      have hmod : (x : Int) % (k : Int) = (y : Int) := by rw [← Int.natCast_emod, hy]
      obtain ⟨z, hz⟩ : ∃ z, x / k = z := ⟨_, rfl⟩
      have hz2 : z ≤ 19683 := by rw [← hz]; exact Nat.le_trans (Nat.div_le_self _ _) hx
      have hdiv : (x : Int) / (k : Int) = (z : Int) := by rw [← Int.natCast_ediv, hz]
      have HV : Hid (Value.int .u8 (97 + (y : Int)) = .int .u8 ((ltr (i / kp k (n - 1 - d) % k)).toNat : Int)) := Lib.hid (by
        have e2 : n - 1 - d = n - (d + 1) := by omega
        rw [e2, ← HX.out, hy, ltr_nat hy2])
      have HZ : Hid (z = i / kp k (n - d)) := Lib.hid (by
        rw [← hz, HX.out, Nat.div_div_eq_div_mul, ← kp_succ, show n - (d + 1) + 1 = n - d by omega])
      have hc2 := hr.cell hdn
      have hf2 := hr.frozen d
      clear hy hz hyk
      go_wp2
      go_roundw
      case rel => exact ⟨d, z, by omega, hz2, by go_num, by first | rfl | go_num, HZ, hb.setCell (Nat.le_refl _) _, (hr.set d _).congr fun p _ => wF_set hdn HV.out p⟩
      case measure => simp [intOf]
set_option maxRecDepth 10000 in
set_option maxHeartbeats 400000 in
theorem ipower (k n : Nat) (w : World) (hk : k ≤ 3) (hn : n ≤ 9) :
    Calls Tryz.prog 127 #[.int .i64 k, .int .i64 n] w fun e w' => e = .returned (.int .i64 (kp k n)) ∧ w = w' := by
  go_enter Tryz.func127, Tryz.ntmps127
  go_wp2
  go_loop [5, 7] (fun o i => ∃ j q : Nat, j ≤ n ∧ i = .int .i64 j ∧ o = .int .i64 q ∧ Hid (q = kp k j)) (fun _ i => n - (intOf i).toNat)
  case atStart => exact ⟨0, 1, Nat.zero_le _, rfl, rfl, Lib.hid (kp_zero k).symm⟩
  case round =>
    obtain ⟨j, q, hj, rfl, rfl, HQ⟩ := hrel
    have hq : q ≤ 19683 := by rw [HQ.out]; exact kp_le hk (by omega)
    by_cases hlt : j < n
    · have hqk : q * k ≤ 59049 := by
        have := Nat.mul_le_mul hq hk
        omega
      have hqk2 : (q : Int) * (k : Int) ≤ 59049 := by rw [← Int.natCast_mul]; omega
      have hqk0 : 0 ≤ (q : Int) * (k : Int) := by rw [← Int.natCast_mul]; omega
      go_wp2
      go_round
      case rel => exact ⟨j + 1, q * k, by omega, by go_num, by first | rfl | (rw [Int.natCast_mul]) | go_num, Lib.hid (by rw [kp_succ, HQ.out])⟩
      case measure => simp [intOf]; omega
    · have e : j = n := by omega
      subst e
      go_wp2
      go_ret
      exact ⟨ret_int (by rw [HQ.out]), rfl⟩
set_option maxRecDepth 10000 in
set_option maxHeartbeats 400000 in
theorem iwordsOf (k n : Nat) (w : World) (hk1 : 1 ≤ k) (hk : k ≤ 3) (hn : n ≤ 9) :
    Calls Tryz.prog 117 #[.int .i64 k, .int .i64 n] w fun e w' => ∃ v', e = .returned v' ∧ OwnS 9 w.heap.size w' v' (words k n) ∧ Below w.heap.size w w' := by
  have hkp := kp_le hk hn
  obtain ⟨m, hm⟩ : ∃ m, kp k n = m := ⟨_, rfl⟩
  have HE : Hid (words k n = wordsTo k n m) := Lib.hid (by unfold words; rw [hm])
  rw [hm] at hkp
  have HM := Lib.hid hm; clear hm
  go_enter Tryz.func117, Tryz.ntmps117
  go_wp2_with (go_at_call 127; refine (ipower k n _ hk hn).mono ?_; rintro e w2 ⟨rfl, rfl⟩; rw [HM.out])
  go_loopw [5, 11] (fun q i wr => ∃ j : Nat, j ≤ m ∧ i = .int .i64 j ∧ Own 9 w.heap.size wr q (strs (wordsTo k n j)) ∧ Below w.heap.size w wr) (fun _ i _ => m - (intOf i).toNat)
  case atStart => exact ⟨0, Nat.zero_le _, rfl, Own.empty _ _, below_alloc _ _⟩
  case round =>
    obtain ⟨j, hj, rfl, hq, hbq⟩ := hrel
    by_cases hlt : j < m
    · have hsq := hbq.size
      go_wp2_with fail
      refine (iwordAt k n j _ hk1 hk (by omega) (by omega)).mono ?_
      rintro e w3 ⟨rfl, hb3⟩
      have b3 := hbq.trans (hb3.mono hsq)
      have hq3 := hq.keep hb3
      have hs3 := b3.size
      have HLq := Lib.hid (wordsTo_length k n j)
      obtain ⟨wd, hwd⟩ : ∃ wd, word k n j = wd := ⟨_, rfl⟩
      rw [hwd]
      have HWD := Lib.hid hwd; clear hwd
      go_wp2_with (at_builtin; refine app1 39 9 16 (.string ByteArray.empty) Tryz.underlying39 Tryz.infoStr rfl hq3 (.string wd) rfl ?h1 ?h2 hs3 rfl _ _ rfl rfl rfl (by simp) ?_)
      case h1 => rw [strs_length, HLq.out]; unfold maxLen; omega
      case h2 => rw [strs_length, HLq.out]; omega
      intro q' w4 hq4 hg _
      go_wp2
      go_roundw
      case rel => exact ⟨j + 1, by omega, by go_num, by rw [wordsTo_succ, HWD.out, strs_append]; exact hq4, b3.trans (hq3.below hg (Nat.le_refl _) hs3)⟩
      case measure => simp [intOf]; omega
    · have e : j = m := by omega
      subst e
      go_wp2
      go_ret
      exact ⟨_, rfl, by rw [HE.out]; exact hq, hbq⟩
set_option maxRecDepth 10000 in
set_option maxHeartbeats 800000 in
theorem sAll (k n : Nat) (w : World) (hk1 : 1 ≤ k) (hk : k ≤ 3) (hn : n ≤ 16) (hkn : kp k n ≤ 19683) :
    Calls Tryz.prog 86 #[.int .i64 k, .int .i64 n] w fun e w' => ∃ v', e = .returned v' ∧ OwnS 9 w.heap.size w' v' (words k n) ∧ Below w.heap.size w w' := by
  have HKL : Hid (∀ t, t ≤ n → kp k t ≤ 19683) := Lib.hid fun t ht => Nat.le_trans (Nat.pow_le_pow_right hk1 ht) hkn
  clear hkn
  have hst : Own 9 w.heap.size (w.alloc (.cells #[.string ⟨#[]⟩] 9)) (.slice (some ⟨w.heap.size, 0, none⟩) 1 1) (strs (words k 0)) :=
    World.ownsRow_lit w #[.string ⟨#[]⟩] 1 (Nat.le_refl _) (by simp [maxLen]) rfl
  have hb0 := below_alloc w (.cells #[.string ⟨#[]⟩] 9)
  go_enter Tryz.func86, Tryz.ntmps86
  go_wp2
  go_loopw [5, 6] (fun q i wr => ∃ t : Nat, t ≤ n ∧ i = .int .i64 t ∧ Own 9 w.heap.size wr q (strs (words k t)) ∧ Below w.heap.size w wr) (fun _ i _ => n - (intOf i).toNat)
  case atStart => exact ⟨0, Nat.zero_le _, rfl, hst, hb0⟩
  case round =>
    clear hst hb0
    obtain ⟨t, ht, rfl, hq, hb⟩ := hrel
    obtain ⟨wo, rfl⟩ : ∃ wo : World, wo = wr := ⟨_, rfl⟩
    have hs := hb.size
    by_cases hltt : t < n
    · obtain ⟨M, hM⟩ : ∃ M, kp k t = M := ⟨_, rfl⟩
      have hM2 : M ≤ 19683 := by rw [← hM]; exact HKL.out t ht
      obtain ⟨aq, cq, rfl⟩ := hq.form (show (strs (words k t)).length = M by rw [strs_length]; unfold words; rw [wordsTo_length]; exact hM)
      have HW : Hid (words k t = wordsTo k t M) := Lib.hid (by unfold words; rw [hM])
      have HM := Lib.hid hM; clear hM
      have HQ := Lib.hid hq
      clear hq
      go_wp2
      go_loopw [7, 8] (fun q j wq => ∃ j' : Nat, j' ≤ M ∧ j = .int .i64 j' ∧ Own 9 wo.heap.size wq q (strs (wordsTo k (t + 1) (j' * k))) ∧ Below wo.heap.size wo wq) (fun _ j _ => M - (intOf j).toNat)
      case atStart => exact ⟨0, Nat.zero_le _, rfl, by rw [Nat.zero_mul]; exact Own.empty _ _, below_alloc _ _⟩
      case round =>
        obtain ⟨j, hj, rfl, hn2, hbq⟩ := hrel
        by_cases hltj : j < M
        · obtain ⟨av, n9, c9, e9, HL9, _, HC9⟩ := (show Strs wo (.slice aq M cq) (words k t) from HQ.out.row).open
          simp only [Value.slice.injEq] at e9
          obtain ⟨e91, e92, -⟩ := e9
          obtain ⟨b, off, wd, e93, hc, HX⟩ := HC9.out j (by omega)
          rw [e91, e93] at *
          clear e91 e92 e93 HC9 HL9
          have hwd : wd = word k t j := by have := HX.out; rw [HW.out, wordsTo_get hltj] at this; exact (Option.some.inj this).symm
          have hwds : wd.size ≤ 16 := by rw [hwd, word_size]; omega
          have HWD := Lib.hid hwd; clear hwd HX
          go_wp2
          go_loopw [7, 9] (fun q x wz => ∃ x' : Nat, x' ≤ k ∧ x = .int .i64 x' ∧ Own 9 wo.heap.size wz q (strs (wordsTo k (t + 1) (j * k + x'))) ∧ Below wo.heap.size wo wz) (fun _ x _ => k - (intOf x).toNat)
          case atStart => exact ⟨0, Nat.zero_le _, rfl, by rw [Nat.add_zero]; exact hn2, hbq⟩
          case round =>
            clear hn2 hbq
            obtain ⟨x, hx, rfl, hn2, hbq⟩ := hrel
            have hsq := hbq.size
            by_cases hltx : x < k
            · have hx2 : x ≤ 2 := by omega
              have hnum : j * k + x ≤ 60000 := by
                have := Nat.mul_le_mul (show j ≤ 19683 by omega) hk
                omega
              have HLq := Lib.hid (wordsTo_length k (t + 1) (j * k + x))
              have HNX := Lib.hid (word_next hltx t j)
              rw [← HWD.out] at HNX
              have HEXT : Hid ((⟨#[97, 98, 99]⟩ : ByteArray).extract x (x + 1) = str [ltr x]) := Lib.hid (by
                have : x = 0 ∨ x = 1 ∨ x = 2 := by omega
                rcases this with rfl | rfl | rfl <;> rfl)
              obtain ⟨nx, hnx⟩ : ∃ nx, word k (t + 1) (j * k + x) = nx := ⟨_, rfl⟩
              rw [hnx] at HNX
              have hc1 := cell_keep hbq hc
              have hcat : wd ++ (⟨#[97, 98, 99]⟩ : ByteArray).extract x (x + 1) = nx := by rw [HEXT.out, HNX.out]
              have HNW := Lib.hid hnx; clear hnx
              have hh1 : (strs (wordsTo k (t + 1) (j * k + x))).length + 1 ≤ maxLen := by rw [strs_length, HLq.out]; unfold maxLen; omega
              have hh2 : ((strs (wordsTo k (t + 1) (j * k + x))).length + 1) * 16 ≤ 140737488355328 := by rw [strs_length, HLq.out]; omega
              clear hnum
              have hdA : Below wr.heap.size wr (wr.alloc (.cells #[.string nx] 9)).drew := (below_alloc wr (.cells #[.string nx] 9)).trans (Below.refl _ _).drew
              have hqA := hn2.keep hdA
              have hcN : (wr.alloc (.cells #[.string nx] 9)).drew.cell? ⟨wr.heap.size, 0, none⟩ = some (.string nx) := by simp
              have hh3 : wo.heap.size ≤ (wr.alloc (.cells #[.string nx] 9)).drew.heap.size := Nat.le_trans hsq hdA.size
              have hx3 : (x : Int) + 1 ≤ 3 := by omega
              have hx4 : (0 : Int) ≤ (x : Int) + 1 := by omega
              have hx5 : ((x : Int) + 1).toNat = x + 1 := by omega
              have hx6 : x + 1 ≤ 3 := by omega
              have hx7 : (x : Int) ≤ (x : Int) + 1 := by omega
              have hx8 : x ≤ x + 1 := by omega
              have hes : ((⟨#[97, 98, 99]⟩ : ByteArray).extract x (x + 1)).size = 1 := by rw [HEXT.out, str_size]; rfl
              have hes3 : (Op.stringOp .add wd ((⟨#[97, 98, 99]⟩ : ByteArray).extract x (x + 1))).run Tryz.prog = fun w => .ok (.string nx) w := by funext w; rw [run_string_add_if, if_neg (by rw [hes]; omega), hcat]
              have hw1 : IntKind.i64.wrap ((x : Int) + 1) = (x : Int) + 1 := by rw [IntKind.wrap_i64]; omega
              go_wp2
              go_region_held3 (fun w' => w'.cell? ⟨b, off + j, none⟩ = some (.string wd))
                (first | assumption | go_keep | exact cell_keep hgb hc)
                ((refine app1s 39 9 16 (.string ByteArray.empty) Tryz.underlying39 Tryz.infoStr rfl hqA (.string nx) rfl hh1 hh2 hh3 (by rfl) _ _ (by rfl) (by rfl) (by rfl) hcN ?_; intro q' w1 hq1 hg hsz1; have hgb : Below wo.heap.size wo w1 := (hbq.trans (hdA.mono hsq)).trans (hqA.below hg (Nat.le_refl _) hh3)))
              go_wp2
              go_roundw
              case rel => exact ⟨x + 1, by omega, by go_num, by rw [← Nat.add_assoc, wordsTo_succ, HNW.out, strs_append]; exact hq1, hgb⟩
              case measure => simp [intOf]; omega
            · have e : x = k := by omega
              subst e
              go_wp2
              go_roundw
              case rel => exact ⟨j + 1, by omega, by go_num, by rw [Nat.succ_mul]; exact hn2, hbq⟩
              case measure => simp [intOf]; omega
        · have e : j = M := by omega
          subst e
          have HN : Hid (wordsTo k (t + 1) (j * k) = words k (t + 1)) := Lib.hid (by unfold words; rw [kp_succ, HM.out])
          rw [HN.out] at hn2
          go_wp2
          go_roundw
          case rel => exact ⟨t + 1, by omega, by go_num, hn2.mono hs, hb.trans (hbq.mono hs)⟩
          case measure => simp [intOf]; omega
    · have e : t = n := by omega
      subst e
      go_wp2
      go_ret
      exact ⟨_, rfl, hq, hb⟩
end Go.Proofs.YtkohadoicebojaaGreatDoor
