/- FormatInt, the program's (by the library's contract) and the reference's. No statement is proved here. -/
import Derived.Test.YtkohadoicebojaaGreatDoorStr
import Derived.Test.YtkohadoicebojaaGreatDoorRows
import Derived.Test.YtkohadoicebojaaGreatDoorShelf
import Derived.WalkKit
import Derived.WalkSpells
import Derived.WalkLawsBesides
import Derived.BigQuiet
import Derived.Deep.QuietTactic
import Derived.Lib.ItoaLen
import Derived.Lib.LaidTab
import Derived.Lib.SmallJoins
namespace Go.Proofs.YtkohadoicebojaaGreatDoor
open Go.RowKit Go.Deep
/-- The table of the library's is as it must be. -/
def Tb (w : World) : Prop := Lib.TabIs Tryz.prog w "internal/strconv.uint64pow10" .u64 Lib.pow10Tab
theorem gPow : Tryz.prog.globalNamed "internal/strconv.uint64pow10" = some 5 := by kernel_rfl
theorem Tb.keep {w w' : World} (h : Tb w) (hb : Below w.heap.size w w') : Tb w' := by
  exact Go.Joins.tab_stays gPow h hb (Nat.le_refl _)
/-- The table out of what the row lists. -/
theorem tb_of_laid {W : World} {d1 d2 : DataW Unit} {n1 n2 : String} {rest : List (String × DataW Unit)} (h : laidMet Tryz.prog ((n1, d1) :: (n2, d2) :: ("internal/strconv.uint64pow10", Lib.tabData .u64 Lib.pow10Tab) :: rest) W) : Tb W := by
  obtain ⟨ps, ⟨g0, t0, cs0, f0, p0, q0, _, _, _, _, ⟨g1, t1, cs1, f1, p1, q1, _, _, _, _, ⟨g, t, cs, fuel, p, q, hg, ht, hv, hd, _⟩, _⟩, _⟩, _⟩ := h
  obtain rfl := Option.some.inj (gPow.symm.trans hg)
  obtain rfl := Option.some.inj ((show (Tryz.prog.globals[5]?).map (·.type) = some 158 by kernel_rfl).symm.trans ht)
  unfold Tb Lib.TabIs
  rw [hv, ← Lib.cells_of_tab Tryz.underlying158 (e := 139) Tryz.underlying139 (by kernel_rfl) (by kernel_rfl) hd]
theorem int_wf {n : Int} (h : (Lit.int .i64 n).wf = true) : -9223372036854775808 ≤ n ∧ n ≤ 9223372036854775807 := by
  have hx : IntKind.i64.min ≤ n ∧ n ≤ IntKind.i64.max := by simpa [Lit.wf] using h
  exact hx
theorem bne_self_toList (x : ByteArray) : (x.toList != x.toList) = false := by simp
def dgt (x : Nat) : UInt8 := UInt8.ofNat (48 + x)
theorem dgt_nat {x : Nat} (h : x < 10) : ((dgt x).toNat : Int) = 48 + (x : Int) := by
  have : x = 0 ∨ x = 1 ∨ x = 2 ∨ x = 3 ∨ x = 4 ∨ x = 5 ∨ x = 6 ∨ x = 7 ∨ x = 8 ∨ x = 9 := by omega
  rcases this with rfl | rfl | rfl | rfl | rfl | rfl | rfl | rfl | rfl | rfl <;> rfl
theorem below_drawsN (w : World) (k : Nat) : Below w.heap.size w (w.drewN k) := Go.Joins.below_draws _ w k
theorem below_growX (w : World) (os : Array Obj) : Below w.heap.size w (Go.Sort.grow w os) := ⟨rfl, rfl, rfl, by simp [Go.Sort.grow], fun k hk => by
  show (w.heap ++ os)[k]? = w.heap[k]?
  rw [Array.getElem?_append_left hk]⟩
/-- The digits of m; none of zero. -/
def dig (m : Nat) : List UInt8 := if m = 0 then [] else Lib.decDigits m
theorem dig_pos {m : Nat} (h : m ≠ 0) : dig m = Lib.decDigits m := if_neg h
theorem str_nil_append (x : ByteArray) : str [] ++ x = x := bts_inj (by rw [bts_append, bts_str]; rfl)
theorem dig_zero : dig 0 = [] := rfl
theorem dig_step {m : Nat} (h : m ≠ 0) : dig m = dig (m / 10) ++ [dgt (m % 10)] := by
  rw [dig_pos h, Lib.decDigits]
  by_cases h1 : m < 10
  · rw [dif_pos h1]
    unfold dig dgt
    rw [Nat.div_eq_of_lt h1, if_pos rfl, Nat.mod_eq_of_lt h1]; rfl
  · rw [dif_neg h1, dig_pos (by omega)]; rfl
theorem dig_small {m : Nat} (h : m ≤ 9223372036854775808) : (dig m).length ≤ 21 := by
  unfold dig
  split
  · simp
  · by_cases e : m = 9223372036854775808
    · subst e
      have := Lib.itoa_length_le (-9223372036854775808) (by omega) (by omega)
      have e2 := Lib.itoa_neg 9223372036854775808 (by omega)
      rw [show (-((9223372036854775808 : Nat) : Int)) = -9223372036854775808 from rfl] at e2
      rw [e2, List.length_cons] at this
      omega
    · have := Lib.itoa_length_le (m : Int) (by omega) (by omega)
      rwa [Lib.itoa_nonneg] at this
def fmtI (n : Int) : ByteArray := str (Lib.itoa n)
theorem fmtI_zero : fmtI 0 = ⟨#[48]⟩ := by
  unfold fmtI
  rw [show (0 : Int) = ((0 : Nat) : Int) from rfl, Lib.itoa_nonneg, Lib.decDigits_one (by omega)]; rfl
theorem fmtI_pos {n : Int} (h : 0 < n) : fmtI n = str (dig n.natAbs) := by
  unfold fmtI Lib.itoa
  rw [if_neg (by omega), dig_pos (by omega), show n.toNat = n.natAbs by omega]
theorem fmtI_neg {n : Int} (h : n < 0) : fmtI n = ⟨#[45]⟩ ++ str (dig n.natAbs) := by
  unfold fmtI Lib.itoa
  rw [if_pos h, dig_pos (by omega)]
  exact str_append [45] _
theorem fmtI_small {n : Int} (h0 : -9223372036854775808 ≤ n) (h1 : n ≤ 9223372036854775807) : (fmtI n).size ≤ 21 := by
  unfold fmtI; rw [str_size]; exact Lib.itoa_length_le n h0 h1
set_option maxRecDepth 10000 in
set_option maxHeartbeats 400000 in
theorem sFormatInt (n : Int) (w : World) (h0 : -9223372036854775808 ≤ n) (h1 : n ≤ 9223372036854775807) :
    Calls Tryz.prog 99 #[.int .i64 n] w fun e w' => e = .returned (.string (fmtI n)) ∧ Below w.heap.size w w' := by
  by_cases hz : n = 0
  · subst hz
    go_enter Tryz.func99, Tryz.ntmps99
    go_wp2
    go_ret
    exact ⟨ret_str fmtI_zero.symm, Below.refl _ _⟩
  obtain ⟨M, hM⟩ : ∃ M, n.natAbs = M := ⟨_, rfl⟩
  have HSX : Hid (∀ (j : Nat) (x : ByteArray), str (dig j) ++ x = str (dig M) → x.size ≤ 21) := Lib.hid fun j x h => by
    have h2 := congrArg ByteArray.size h
    rw [ByteArray.size_append, str_size, str_size] at h2
    have := dig_small (m := M) (by omega)
    omega
  obtain ⟨T, hT⟩ : ∃ T, str (dig M) = T := ⟨_, rfl⟩
  have HT := Lib.hid hT
  rw [hT] at HSX
  by_cases hpos : 0 < n
  · have HR : Hid (fmtI n = T) := Lib.hid (by rw [fmtI_pos hpos, hM, hT])
    clear hT
    rw [HR.out]
    have hn0 : (n == 0) = false := beq_eq_false_iff_ne.2 hz
    have hnn : n = (M : Int) := by omega
    go_enter Tryz.func99, Tryz.ntmps99
    go_wp2
    go_loopw [0, 4, 5] (fun q o _ wr => ∃ (j : Nat) (x : ByteArray), j ≤ 9223372036854775808 ∧ q = .int .i64 ((j : Int)) ∧ j ≤ 9223372036854775807 ∧ o = .string x ∧ Hid (str (dig j) ++ x = T) ∧ Below w.heap.size w wr) (fun q _ _ _ => (intOf q).natAbs)
    case atStart => exact ⟨M, ByteArray.empty, by omega, by go_num, by omega, rfl, Lib.hid (by rw [HT.out]; simp), Below.refl _ _⟩
    case round =>
      obtain ⟨j, x, hj, rfl, hj2, rfl, HF, hb⟩ := hrel
      have hxs : x.size ≤ 21 := HSX.out j x HF.out
      by_cases hlt : j = 0
      · subst hlt
        have HE : Hid (x = T) := Lib.hid (by have := HF.out; rwa [dig_zero, str_nil_append] at this)
        rw [show ((0 : Nat) : Int) = 0 from rfl]
        go_wp2
        go_ret
        exact ⟨ret_str (by rw [HE.out]), hb⟩
      obtain ⟨d, hd⟩ : ∃ d, j % 10 = d := ⟨_, rfl⟩
      have hd10 : d < 10 := by omega
      obtain ⟨z, hz⟩ : ∃ z, j / 10 = z := ⟨_, rfl⟩
      have hzj : z < j := by omega
      have HF2 : Hid (str (dig z) ++ (str [dgt d] ++ x) = T) := Lib.hid (by rw [← HF.out, dig_step hlt, hd, hz, str_append, ByteArray.append_assoc])
      have hm1 : Int.tmod ((j : Int)) 10 = (d : Int) := by rw [Int.tmod_eq_emod_of_nonneg (by omega)]; omega
      have hm2 : Int.tdiv ((j : Int)) 10 = (z : Int) := by rw [Int.tdiv_eq_ediv_of_nonneg (by omega)]; omega
      have hm3 : (((j : Int)) != 0) = true := bne_iff_ne.2 (by omega)
      have hm4 : ¬ ((j : Int)) = 0 := by omega
      have hA := below_alloc wr (.cells #[.int .u8 (48 + (d : Int))] 5)
      have hrun := run_str_cells (P := Tryz.prog) (wr.alloc (.cells #[.int .u8 (48 + (d : Int))] 5)) 22 5 Tryz.underlying22 Tryz.underlying5 wr.heap.size 0 1 [dgt d] 1 rfl (fun i c hi => by
        have e : i = 0 := by
          have := (List.getElem?_eq_some_iff.1 hi).1
          simp at this; exact this
        subst e
        have e2 : c = dgt d := by simpa using hi.symm
        subst e2
        rw [dgt_nat hd10]; simp) 9 Tryz.underlying9
      have hsx : (str [dgt d]).size = 1 := by rw [str_size]; rfl
      clear hd hz
      go_wp2
      go_roundw
      case rel => exact ⟨z, _, by omega, by go_num, by omega, rfl, HF2, hb.trans (hA.mono hb.size)⟩
      case measure => simp [intOf]; omega
  · have HR : Hid (fmtI n = ⟨#[45]⟩ ++ T) := Lib.hid (by rw [fmtI_neg (by omega), hM, hT])
    have hTs : T.size ≤ 21 := HSX.out 0 T (by rw [dig_zero, str_nil_append])
    clear hT
    rw [HR.out]
    have hn0 : (n == 0) = false := beq_eq_false_iff_ne.2 hz
    have hnn : n = -(M : Int) := by omega
    go_enter Tryz.func99, Tryz.ntmps99
    go_wp2
    go_loopw [0, 4, 5] (fun q o _ wr => ∃ (j : Nat) (x : ByteArray), j ≤ 9223372036854775808 ∧ q = .int .i64 (-(j : Int)) ∧ o = .string x ∧ Hid (str (dig j) ++ x = T) ∧ Below w.heap.size w wr) (fun q _ _ _ => (intOf q).natAbs)
    case atStart => exact ⟨M, ByteArray.empty, by omega, by go_num, rfl, Lib.hid (by rw [HT.out]; simp), Below.refl _ _⟩
    case round =>
      obtain ⟨j, x, hj, rfl, rfl, HF, hb⟩ := hrel
      have hxs : x.size ≤ 21 := HSX.out j x HF.out
      by_cases hlt : j = 0
      · subst hlt
        have HE : Hid (x = T) := Lib.hid (by have := HF.out; rwa [dig_zero, str_nil_append] at this)
        rw [show (-((0 : Nat) : Int)) = 0 from rfl]
        go_wp2
        go_ret
        exact ⟨ret_str (by rw [HE.out]), hb⟩
      obtain ⟨d, hd⟩ : ∃ d, j % 10 = d := ⟨_, rfl⟩
      have hd10 : d < 10 := by omega
      obtain ⟨z, hz⟩ : ∃ z, j / 10 = z := ⟨_, rfl⟩
      have hzj : z < j := by omega
      have HF2 : Hid (str (dig z) ++ (str [dgt d] ++ x) = T) := Lib.hid (by rw [← HF.out, dig_step hlt, hd, hz, str_append, ByteArray.append_assoc])
      by_cases hd0 : d = 0
      · subst hd0
        have hm1 : Int.tmod (-(j : Int)) 10 = 0 := by rw [Int.neg_tmod, Int.tmod_eq_emod_of_nonneg (by omega)]; omega
        have hm2 : Int.tdiv (-(j : Int)) 10 = -(z : Int) := by rw [Int.neg_tdiv, Int.tdiv_eq_ediv_of_nonneg (by omega)]; omega
        have hm3 : ((-(j : Int)) != 0) = true := bne_iff_ne.2 (by omega)
        have hm4 : ¬ (-(j : Int)) = 0 := by omega
        have hA := below_alloc wr (.cells #[.int .u8 (48)] 5)
        have hrun := run_str_cells (P := Tryz.prog) (wr.alloc (.cells #[.int .u8 (48)] 5)) 22 5 Tryz.underlying22 Tryz.underlying5 wr.heap.size 0 1 [dgt 0] 1 rfl (fun i c hi => by
          have e : i = 0 := by
            have := (List.getElem?_eq_some_iff.1 hi).1
            simp at this; exact this
          subst e
          have e2 : c = dgt 0 := by simpa using hi.symm
          subst e2
          rw [dgt_nat (by omega)]; simp) 9 Tryz.underlying9
        have hsx : (str [dgt 0]).size = 1 := by rw [str_size]; rfl
        clear hd hz
        go_wp2
        go_roundw
        case rel => exact ⟨z, _, by omega, by go_num, rfl, HF2, hb.trans (hA.mono hb.size)⟩
        case measure => simp [intOf]; omega
      · have hd1 : ¬ (-(d : Int)) ≥ 0 := by omega
        have hm1 : Int.tmod (-(j : Int)) 10 = -(d : Int) := by rw [Int.neg_tmod, Int.tmod_eq_emod_of_nonneg (by omega)]; omega
        have hm2 : Int.tdiv (-(j : Int)) 10 = -(z : Int) := by rw [Int.neg_tdiv, Int.tdiv_eq_ediv_of_nonneg (by omega)]; omega
        have hm3 : ((-(j : Int)) != 0) = true := bne_iff_ne.2 (by omega)
        have hm4 : ¬ (-(j : Int)) = 0 := by omega
        have hA := below_alloc wr (.cells #[.int .u8 (48 + (d : Int))] 5)
        have hrun := run_str_cells (P := Tryz.prog) (wr.alloc (.cells #[.int .u8 (48 + (d : Int))] 5)) 22 5 Tryz.underlying22 Tryz.underlying5 wr.heap.size 0 1 [dgt d] 1 rfl (fun i c hi => by
          have e : i = 0 := by
            have := (List.getElem?_eq_some_iff.1 hi).1
            simp at this; exact this
          subst e
          have e2 : c = dgt d := by simpa using hi.symm
          subst e2
          rw [dgt_nat hd10]; simp) 9 Tryz.underlying9
        have hsx : (str [dgt d]).size = 1 := by rw [str_size]; rfl
        clear hd hz
        go_wp2
        go_roundw
        case rel => exact ⟨z, _, by omega, by go_num, rfl, HF2, hb.trans (hA.mono hb.size)⟩
        case measure => simp [intOf]; omega
set_option maxRecDepth 10000 in
set_option maxHeartbeats 400000 in
theorem iFormatInt (n : Int) (w : World) (h0 : -9223372036854775808 ≤ n) (h1 : n ≤ 9223372036854775807) (ht : Tb w) :
    Calls Tryz.prog 98 #[.int .i64 n] w fun e w' => e = .returned (.string (fmtI n)) ∧ Below w.heap.size w w' := by
  have hC := Lib.hid (Tryz.strconv_Itoa n h0 h1 w ht)
  go_enter Tryz.func98, Tryz.ntmps98
  go_wp2_with fail
  refine hC.out.mono ?_
  rintro e w' ⟨rfl, k, os, rfl⟩
  go_wp2
  go_ret
  exact ⟨rfl, (below_drawsN w k).trans (below_growX _ os |>.mono (Nat.le_refl _))⟩
end Go.Proofs.YtkohadoicebojaaGreatDoor
