/- Slices of strings: what they read as, and the laws' own helpers on them (sizes, copies, comparisons). No statement is proved here. -/
import Derived.Test.YtkohadoicebojaaGreatDoorRows
import Derived.Test.YtkohadoicebojaaGreatDoorStr
import Derived.WalkKit
import Derived.WalkSpells
import Derived.WalkLawsBesides
import Derived.BigQuiet
import Derived.Deep.QuietTactic
namespace Go.Proofs.YtkohadoicebojaaGreatDoor
open Go.RowKit Go.Deep
def strs (l : List ByteArray) : List Value := l.map Value.string
theorem strs_length (l : List ByteArray) : (strs l).length = l.length := by simp [strs]
theorem strs_get (l : List ByteArray) (i : Nat) (h : i < (strs l).length) : (strs l)[i] = .string (l[i]'(by simpa [strs] using h)) := by simp [strs]
theorem strs_get? (l : List ByteArray) (i : Nat) : (strs l)[i]? = l[i]?.map Value.string := by simp [strs]
theorem strs_append (l m : List ByteArray) : strs (l ++ m) = strs l ++ strs m := by simp [strs]
/-- v reads as the strings l. -/
def Strs (w : World) (v : Value) (l : List ByteArray) : Prop := Row w v (strs l)
theorem Strs.keep {w w' : World} {v : Value} {l : List ByteArray} (h : Strs w v l) (hb : Below w.heap.size w w') : Strs w' v l := Row.keep h hb
theorem Strs.open {w : World} {v : Value} {l : List ByteArray} (h : Strs w v l) :
    ∃ a n cap, v = .slice a n cap ∧ Hid (l.length = n) ∧ n ≤ 9223372036854775807 ∧
      Hid (∀ i, i < n → ∃ b off x, a = some ⟨b, off, none⟩ ∧ w.cell? ⟨b, off + i, none⟩ = some (.string x) ∧ Hid (l[i]? = some x)) := by
  obtain ⟨a, cap, hv, hm, hc⟩ := Row.open h
  rw [strs_length] at hv hm
  refine ⟨a, l.length, cap, hv, Lib.hid rfl, hm, Lib.hid fun i hi => ?_⟩
  obtain ⟨b, off, ha, hcell⟩ := hc.out i (by rw [strs_length]; exact hi)
  rw [strs_get] at hcell
  exact ⟨b, off, _, ha, hcell, Lib.hid (List.getElem?_eq_getElem _)⟩
/-- A new slice of strings, whose blocks end at H. -/
def OwnS (te : TypeId) (B : Nat) (w : World) (v : Value) (l : List ByteArray) : Prop := Own te B w v (strs l)
def OwnSH (te : TypeId) (B H : Nat) (w : World) (v : Value) (l : List ByteArray) : Prop := Own te B w v (strs l) ∧ ∀ k, v.ownBlock = some k → k < H
theorem OwnS.toH {te : TypeId} {B : Nat} {w : World} {v : Value} {l : List ByteArray} (h : OwnS te B w v l) : OwnSH te B w.heap.size w v l := ⟨h, fun k hk => (Own.lt h k hk).2⟩
theorem OwnS.strs {te : TypeId} {B : Nat} {w : World} {v : Value} {l : List ByteArray} (h : OwnS te B w v l) : Strs w v l := Own.row h
theorem OwnSH.strs {te : TypeId} {B H : Nat} {w : World} {v : Value} {l : List ByteArray} (h : OwnSH te B H w v l) : Strs w v l := h.1.row
theorem OwnSH.keep {te : TypeId} {B H : Nat} {w w' : World} {v : Value} {l : List ByteArray} (h : OwnSH te B H w v l) (hb : Below w.heap.size w w') : OwnSH te B H w' v l := ⟨h.1.keep hb, h.2⟩
theorem toList_inj {x y : ByteArray} (h : x.toList = y.toList) : x = y := by
  rw [ByteArray.toList_eq, ByteArray.toList_eq] at h
  exact bts_inj h
theorem beq_toList_ne {x y : ByteArray} (h : x ≠ y) : (x.toList == y.toList) = false := beq_eq_false_iff_ne.2 fun e => h (toList_inj e)
theorem bne_toList_ne {x y : ByteArray} (h : x ≠ y) : (x.toList != y.toList) = true := bne_iff_ne.2 fun e => h (toList_inj e)
/-- How many bytes some strings hold. -/
def totalS (l : List ByteArray) : Nat := (l.map ByteArray.size).sum
theorem totalS_take_succ {l : List ByteArray} {j : Nat} {x : ByteArray} (h : l[j]? = some x) : totalS (l.take (j + 1)) = totalS (l.take j) + x.size := by
  rw [take_snoc h]; simp [totalS]
theorem totalS_take_all {l : List ByteArray} {n j : Nat} (hl : l.length = n) (hj : ¬ j < n) : totalS (l.take j) = totalS l := by rw [List.take_of_length_le (by omega)]
theorem size_le_totalS {l : List ByteArray} {x : ByteArray} (h : x ∈ l) : x.size ≤ totalS l := by
  induction l with
  | nil => cases h
  | cons a l ih =>
    have e : totalS (a :: l) = a.size + totalS l := by simp [totalS]
    rw [e]
    rcases List.mem_cons.1 h with rfl | h
    · omega
    · have := ih h; omega
theorem Tryz.infoStr : (Tryz.prog.info? 9).map (fun i => (i.zero, i.size, i.bytes)) = some (some (.string ByteArray.empty), 1, 16) := by kernel_rfl
def fillS (l : List ByteArray) (j : Nat) (i : Nat) : Value := .string (if i < j then l.getD i ByteArray.empty else ByteArray.empty)
theorem fillS_step {l : List ByteArray} {j : Nat} {x : ByteArray} (hx : l[j]? = some x) (i : Nat) : (if i = j then Value.string x else fillS l j i) = fillS l (j + 1) i := by
  unfold fillS
  by_cases h : i = j
  · subst h; simp [hx]
  · rw [if_neg h]
    by_cases h2 : i < j
    · rw [if_pos h2, if_pos (by omega)]
    · rw [if_neg h2, if_neg (by omega)]
theorem fillS_done {l : List ByteArray} {n j : Nat} (hl : l.length = n) (hj : ¬ j < n) (i : Nat) (hi : i < n) : (strs l)[i]? = some (fillS l j i) := by
  rw [strs_get?, fillS, if_pos (by omega)]
  simp [List.getD, List.getElem?_eq_getElem (show i < l.length by omega)]
end Go.Proofs.YtkohadoicebojaaGreatDoor
