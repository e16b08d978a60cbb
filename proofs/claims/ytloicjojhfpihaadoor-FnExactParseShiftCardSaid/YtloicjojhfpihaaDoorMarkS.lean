/- Contracts of the laws' own helpers that mark results of strings and look for the marks. No statement is proved here. -/
import Derived.Test.YtloicjojhfpihaaDoorStrsH
import Derived.Test.YtloicjojhfpihaaDoorTab
import Derived.Test.YtloicjojhfpihaaDoorApp2
import Derived.Deep.RegionHeld3
namespace Go.Proofs.YtloicjojhfpihaaDoor
open Go.RowKit Go.Deep
theorem growB {w w' : World} (h : Below w.heap.size w w') (b : Option Nat) : w.grownBy w' b := ⟨h.os, h.tape, h.output, h.size, fun k hk _ => h.block k hk⟩
theorem growT {w w1 w2 : World} {b b1 : Option Nat} (h : w.grownBy w1 b) (h2 : w1.grownBy w2 b1) (hb : b1 = b ∨ ∀ k, b1 = some k → w.heap.size ≤ k) : w.grownBy w2 b := by
  refine ⟨h2.os.trans h.os, h2.tape.trans h.tape, h2.output.trans h.output, Nat.le_trans h.size h2.size, fun k hk hne => (h2.block k (Nat.lt_of_lt_of_le hk h.size) fun e => ?_).trans (h.block k hk hne)⟩
  rcases hb with hb | hb
  · exact hne (e.trans hb)
  · have := hb k e.symm; omega
def mdgt (x : Nat) : UInt8 := UInt8.ofNat (48 + x)
theorem mdgt_nat {x : Nat} (h : x < 10) : ((mdgt x).toNat : Int) = 48 + (x : Int) := by
  have : x = 0 ∨ x = 1 ∨ x = 2 ∨ x = 3 ∨ x = 4 ∨ x = 5 ∨ x = 6 ∨ x = 7 ∨ x = 8 ∨ x = 9 := by omega
  rcases this with rfl | rfl | rfl | rfl | rfl | rfl | rfl | rfl | rfl | rfl <;> rfl
def mdig : Nat → Nat → ByteArray → ByteArray
  | 0, _, o => o
  | f + 1, k, o => if k = 0 then o else mdig f (k / 10) (str [mdgt (k % 10)] ++ o)
def mtx (k : Nat) : ByteArray := if k = 0 then ⟨#[109, 48]⟩ else ⟨#[109]⟩ ++ mdig (k + 1) k ByteArray.empty
theorem mdig_end {f : Nat} (h : 0 < f) (o : ByteArray) : mdig f 0 o = o := by
  obtain ⟨g, rfl⟩ : ∃ g, f = g + 1 := ⟨f - 1, by omega⟩
  rw [mdig, if_pos rfl]
theorem mdig_step {f k : Nat} (h : 0 < k) (o : ByteArray) : mdig (f + 1) k o = mdig f (k / 10) (str [mdgt (k % 10)] ++ o) := by rw [mdig, if_neg (by omega)]
set_option maxRecDepth 10000 in
set_option maxHeartbeats 400000 in
theorem markText (k : Nat) (w : World) (hk : k ≤ 5000000) :
    Calls Tryd.prog 37 #[.int .i64 k] w fun e w' => e = .returned (.string (mtx k)) ∧ Below w.heap.size w w' := by
  by_cases h0 : k = 0
  · subst h0
    rw [show ((0 : Nat) : Int) = 0 from rfl]
    go_enter Tryd.func37, Tryd.ntmps37
    go_wp2
    go_ret
    exact ⟨rfl, Below.refl _ _⟩
  have hk0 : ¬ (k : Int) ≤ 0 := by omega
  have HX : Hid (mtx k = ⟨#[109]⟩ ++ mdig (k + 1) k ByteArray.empty) := Lib.hid (if_neg h0)
  go_enter Tryd.func37, Tryd.ntmps37
  go_wp2
  go_loopw [0, 3] (fun q o wr => ∃ (j f : Nat) (x : ByteArray), j ≤ 5000000 ∧ q = .int .i64 j ∧ o = .string x ∧ x.size + j ≤ 5000000 ∧ Hid (j < f ∧ mdig f j x = mdig (k + 1) k ByteArray.empty) ∧ Below w.heap.size w wr) (fun q _ _ => (intOf q).toNat)
  case atStart => exact ⟨k, k + 1, ByteArray.empty, hk, rfl, rfl, by show 0 + k ≤ 5000000; omega, Lib.hid ⟨by omega, rfl⟩, Below.refl _ _⟩
  case round =>
    obtain ⟨j, f, x, hj, rfl, rfl, hxs, HF, hb⟩ := hrel
    by_cases hlt : 0 < j
    · obtain ⟨g, rfl⟩ : ∃ g, f = g + 1 := ⟨f - 1, by have := HF.out.1; omega⟩
      obtain ⟨d, hd⟩ : ∃ d, j % 10 = d := ⟨_, rfl⟩
      have hd10 : d < 10 := by omega
      obtain ⟨z, hz⟩ : ∃ z, j / 10 = z := ⟨_, rfl⟩
      have hzj : z < j := by omega
      have hm1 : (j : Int) % 10 = (d : Int) := by omega
      have hm2 : (j : Int) / 10 = (z : Int) := by omega
      have HF2 : Hid (z < g ∧ mdig g z (str [mdgt d] ++ x) = mdig (k + 1) k ByteArray.empty) := Lib.hid ⟨by have := HF.out.1; omega, by
        have := HF.out.2
        rw [mdig_step hlt, hd, hz] at this; exact this⟩
      have hsz2 : (str [mdgt d] ++ x).size + z ≤ 5000000 := by rw [ByteArray.size_append, str_size]; simp; omega
      have hA := below_alloc wr (.cells #[.int .u8 (48 + (d : Int))] 5)
      have hrun := run_str_cells (P := Tryd.prog) (wr.alloc (.cells #[.int .u8 (48 + (d : Int))] 5)) 62 5 Tryd.underlying62 Tryd.underlying5 wr.heap.size 0 1 [mdgt d] 1 rfl (fun i c hi => by
        have e : i = 0 := by
          have := (List.getElem?_eq_some_iff.1 hi).1
          simp at this; exact this
        subst e
        have e2 : c = mdgt d := by simpa using hi.symm
        subst e2
        rw [mdgt_nat hd10]; simp) 9 Tryd.underlying9
      have hsx : (str [mdgt d]).size = 1 := by rw [str_size]; rfl
      clear hd hz
      go_wp2
      go_roundw
      case rel => exact ⟨z, g, _, by omega, by go_num, rfl, hsz2, HF2, hb.trans (hA.mono hb.size)⟩
      case measure => simp [intOf]; omega
    · have e : j = 0 := by omega
      subst e
      have HE : Hid (⟨#[109]⟩ ++ x = mtx k) := Lib.hid (by rw [HX.out, ← HF.out.2, mdig_end (by have := HF.out.1; omega)])
      rw [show ((0 : Nat) : Int) = 0 from rfl]
      go_wp2
      go_ret
      exact ⟨ret_str HE.out, hb⟩
/-- The marks. -/
def smarks (k n : Nat) : List ByteArray := (List.range n).map fun i => mtx (k + i)
theorem smarks_length (k n : Nat) : (smarks k n).length = n := by simp [smarks]
theorem smarks_get {k n i : Nat} (h : i < n) : (smarks k n)[i]? = some (mtx (k + i)) := by simp [smarks, h]
theorem smarks_succ (k n : Nat) : smarks k (n + 1) = smarks k n ++ [mtx (k + n)] := by simp [smarks, List.range_succ]
def smarkTo (k : Nat) (l : List ByteArray) (j : Nat) : List ByteArray := smarks k j ++ l.drop j
theorem smarkTo_zero (k : Nat) (l : List ByteArray) : smarkTo k l 0 = l := by simp [smarkTo, smarks]
theorem smarkTo_all (k : Nat) (l : List ByteArray) : smarkTo k l l.length = smarks k l.length := by simp [smarkTo]
theorem smarkTo_get (k : Nat) {l : List ByteArray} {j : Nat} (h : j < l.length) : ∃ x, (smarkTo k l j)[j]? = some x := ⟨_, List.getElem?_eq_getElem (by simp [smarkTo, smarks_length]; omega)⟩
theorem smarkTo_step (k : Nat) {l : List ByteArray} {j : Nat} (h : j < l.length) : (strs (smarkTo k l j)).set j (.string (mtx (k + j))) = strs (smarkTo k l (j + 1)) := by
  have e : (smarkTo k l j).set j (mtx (k + j)) = smarkTo k l (j + 1) := by
    unfold smarkTo
    rw [List.set_append_right _ _ (by rw [smarks_length]; exact Nat.le_refl _), smarks_length, Nat.sub_self, drop_set0 h, smarks_succ, List.append_assoc]; rfl
  rw [← e]; simp [strs, List.map_set]
set_option maxRecDepth 10000 in
set_option maxHeartbeats 400000 in
theorem markStringS (B : Nat) (v : Value) (l : List ByteArray) (k : Nat) (w : World) (h : Own 9 B w v (strs l)) (hn : l.length ≤ 2000000) (hk : k ≤ 2000000) :
    Calls Tryd.prog 22 #[v, .int .i64 k] w fun e w' => e = .returned (.int .i64 ((k + l.length : Nat) : Int)) ∧ Own 9 B w' v (strs (smarks k l.length)) ∧ w.grownBy w' v.ownBlock := by
  obtain ⟨n, hl⟩ : ∃ n, l.length = n := ⟨_, rfl⟩
  obtain ⟨a, cap, rfl⟩ := h.form (show (strs l).length = n by rw [strs_length]; exact hl)
  rw [hl] at hn ⊢
  have HL := Lib.hid hl; clear hl
  go_enter Tryd.func22, Tryd.ntmps22
  go_wp2
  go_loopw [1, 5] (fun q i wr => ∃ j : Nat, j ≤ n ∧ i = .int .i64 j ∧ q = .int .i64 ((k + j : Nat) : Int) ∧ Own 9 B wr (.slice a n cap) (strs (smarkTo k l j)) ∧ w.grownBy wr (Value.slice a n cap).ownBlock) (fun _ i _ => n - (intOf i).toNat)
  case atStart => exact ⟨0, Nat.zero_le _, rfl, rfl, by rw [smarkTo_zero]; exact h, World.grownBy.refl _ _⟩
  case round =>
    obtain ⟨j, hj, rfl, rfl, ho, hg⟩ := hrel
    by_cases hlt : j < n
    · go_wp2_with fail
      refine (markText (k + j) _ (by omega)).mono ?_
      rintro e w2 ⟨rfl, hb2⟩
      have ho2 := ho.keep hb2
      obtain ⟨x, hx⟩ := smarkTo_get k (show j < l.length by rw [HL.out]; exact hlt)
      obtain ⟨g, c, e, hB, hc, hf, hset⟩ := ho2.at (show (strs (smarkTo k l j))[j]? = some (.string x) by rw [strs_get?, hx]; rfl)
      simp only [Value.slice.injEq] at e
      obtain ⟨rfl, e2, rfl⟩ := e
      clear e2
      obtain ⟨h1, hg1⟩ := hset (.string (mtx (k + j)))
      have HS := Lib.hid (smarkTo_step k (show j < l.length by rw [HL.out]; exact hlt))
      rw [HS.out] at h1
      have hg3 := growT (growT hg (growB hb2 none) (.inr fun k hk => by cases hk)) hg1 (.inl rfl)
      clear hset ho hg ho2 hg1
      go_wp2
      go_roundw
      case rel => exact ⟨j + 1, by omega, by go_num, by go_num, h1, hg3⟩
      case measure => simp [intOf]; omega
    · have e : j = n := by omega
      subst e
      have HAL : Hid (smarkTo k l j = smarks k j) := Lib.hid (by have := smarkTo_all k l; rwa [HL.out] at this)
      rw [HAL.out] at ho
      go_wp2
      go_ret
      exact ⟨rfl, ho, hg⟩
set_option maxRecDepth 10000 in
set_option maxHeartbeats 400000 in
theorem heldStringS (v : Value) (n k : Nat) (w : World) (h : Strs w v (smarks k n)) (hn : n ≤ 2000000) (hk : k ≤ 2000000) :
    Calls Tryd.prog 23 #[v, .int .i64 k] w fun e w' => e = .returned (.int .i64 ((k + n : Nat) : Int)) ∧ Below w.heap.size w w' := by
  obtain ⟨a, n', cap, rfl, HL, hn', HC⟩ := h.open
  have hl : n' = n := by have := HL.out; rw [smarks_length] at this; omega
  subst hl
  clear h
  go_enter Tryd.func23, Tryd.ntmps23
  go_wp2
  go_loopw [1, 5] (fun q i wr => ∃ j : Nat, j ≤ n' ∧ i = .int .i64 j ∧ q = .int .i64 ((k + j : Nat) : Int) ∧ Below w.heap.size w wr) (fun _ i _ => n' - (intOf i).toNat)
  case atStart => exact ⟨0, Nat.zero_le _, rfl, rfl, Below.refl _ _⟩
  case round =>
    obtain ⟨j, hj, rfl, rfl, hb⟩ := hrel
    by_cases hlt : j < n'
    · obtain ⟨b, off, x, rfl, hc, HX⟩ := HC.out j hlt
      have hx : x = mtx (k + j) := by have := HX.out; rw [smarks_get hlt] at this; exact (Option.some.inj this).symm
      obtain ⟨y, hy⟩ : ∃ y, y = mtx (k + j) := ⟨_, rfl⟩
      rw [← hy] at hx
      subst hx
      have HY := Lib.hid hy; clear hy
      have hc1 := cell_keep hb hc
      have hbd : Below w.heap.size w wr.drew := hb.drew
      have hkj : k + j ≤ 5000000 := by omega
      go_wp2
      go_region_held3 (fun w' => w'.cell? ⟨b, off + j, none⟩ = some (.string x))
        (first | assumption | go_keep | exact cell_keep hb7 hc)
        ((go_at_call 37; refine (markText (k + j) _ hkj).mono ?_; rintro e w6 ⟨rfl, hb6⟩; rw [← HY.out]; have hb7 : Below w.heap.size w w6 := hbd.trans (hb6.mono hbd.size)))
      go_wp2
      go_roundw
      case rel => exact ⟨j + 1, by omega, by go_num, by go_num, hb7⟩
      case measure => simp [intOf]; omega
    · have e : j = n' := by omega
      subst e
      go_wp2
      go_ret
      exact ⟨rfl, hb⟩
theorem OwnSH.grown2 {te : TypeId} {B H : Nat} {w w' : World} {v u : Value} {l : List ByteArray} (h : OwnSH te B H w v l) (hg : w.grownBy w' u.ownBlock) (hu : ∀ k, u.ownBlock = some k → H ≤ k) : OwnSH te B H w' v l := by
  refine ⟨h.1.grown hg ?_, h.2⟩
  cases e : v.ownBlock with
  | none => exact .inl rfl
  | some k =>
    refine .inr fun e2 => ?_
    have h1 := h.2 k e
    have h2 := hu k e2.symm
    omega
theorem belowN {a b c : World} (h : Below a.heap.size a b) (k : Below b.heap.size b c) : Below a.heap.size a c := h.trans (k.mono h.size)
end Go.Proofs.YtloicjojhfpihaaDoor
