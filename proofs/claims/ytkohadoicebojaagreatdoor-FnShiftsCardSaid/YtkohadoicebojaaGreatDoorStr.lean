/- Plain facts on strings and byte slices. No statement is proved here. -/
import Derived.Test.YtkohadoicebojaaGreatDoorMem
import Derived.Test.YtkohadoicebojaaGreatDoorPure
import Derived.Laws.BytesArg
import Derived.Laws.IdiomStrings
import Derived.Lib.MinMaxS
namespace Go.Proofs.YtkohadoicebojaaGreatDoor
open Go.RowKit Go.Deep

/-- A string's bytes, closed to simp. -/
def bts (s : ByteArray) : List UInt8 := s.data.toList
/-- The string of some bytes. -/
def str (l : List UInt8) : ByteArray := ⟨l.toArray⟩
theorem bts_str (l : List UInt8) : bts (str l) = l := by simp [bts, str]
theorem str_bts (s : ByteArray) : str (bts s) = s := by cases s; simp [bts, str]
theorem bts_length (s : ByteArray) : (bts s).length = s.size := by unfold bts; rw [Array.length_toList]; rfl
theorem str_size (l : List UInt8) : (str l).size = l.length := by simp [str, ByteArray.size]
theorem bts_inj {s t : ByteArray} (h : bts s = bts t) : s = t := by rw [← str_bts s, h, str_bts]
theorem bts_get {s : ByteArray} {i : Nat} (h : i < s.size) : (bts s)[i]? = some s[i] := by
  unfold bts; rw [Array.getElem?_toList]; exact Array.getElem?_eq_getElem h
theorem bts_append (s t : ByteArray) : bts (s ++ t) = bts s ++ bts t := by simp [bts, ByteArray.data_append]
theorem str_append (l m : List UInt8) : str (l ++ m) = str l ++ str m := by apply bts_inj; rw [bts_append, bts_str, bts_str, bts_str]
theorem bts_extract (s : ByteArray) (i j : Nat) : bts (s.extract i j) = ((bts s).take j).drop i := by
  unfold bts; rw [ByteArray.data_extract, Array.toList_extract, List.extract_eq_take_drop]; simp [List.drop_take]
/-- Bytes as cells. -/
def bv (l : List UInt8) : List Value := l.map fun c => Value.int .u8 (c.toNat : Int)
theorem bv_length (l : List UInt8) : (bv l).length = l.length := by simp [bv]
theorem bv_get? (l : List UInt8) (i : Nat) : (bv l)[i]? = l[i]?.map (fun c => Value.int .u8 (c.toNat : Int)) := by simp [bv]
theorem bv_append (l m : List UInt8) : bv (l ++ m) = bv l ++ bv m := by simp [bv]
theorem strOfNums_nats (l : List UInt8) : strOfNums (l.map fun c => (c.toNat : Int)) = str l := by
  unfold strOfNums str
  simp [List.map_map, Function.comp_def]
section
variable {P : Program}
/-- 'string(bytes)', the bytes' cells known. -/
theorem run_str_cells (w : World) (src e : TypeId) (hs : P.underlying src = some (.slice e)) (he : P.underlying e = some (.int .u8)) (b off cap : Nat) (l : List UInt8) (n : Nat) (hn : l.length = n)
    (hcell : ∀ i c, l[i]? = some c → w.cell? ⟨b, off + i, none⟩ = some (.int .u8 (c.toNat : Int))) (dst : TypeId) (hd : P.underlying dst = some .string) :
    (convert src dst (.slice (some ⟨b, off, none⟩) n cap)).run P w = .ok (.string (str l)) w := by
  subst hn
  have h := run_convert_bytes_arg (P := P) w src e hs he b off l.length cap (l.map fun c => (c.toNat : Int)) (by simp) (fun i hi => by
    rw [hcell i l[i] (List.getElem?_eq_getElem hi)]
    simp [List.getD, hi]) dst hd
  rw [h, strOfNums_nats]
theorem run_str_own (w : World) (src e : TypeId) (hs : P.underlying src = some (.slice e)) (he : P.underlying e = some (.int .u8)) {B : Nat} {v : Value} {l : List UInt8} (h : Own e B w v (bv l)) (dst : TypeId) (hd : P.underlying dst = some .string) :
    (convert src dst v).run P w = .ok (.string (str l)) w := by
  obtain ⟨a, cap, hv, hl, hm, hc⟩ := h.row
  rw [bv_length] at hv
  subst hv
  by_cases h0 : l = []
  · subst h0
    obtain ⟨_, ⟨hv, _⟩ | ⟨g, cap', cur, hv, hB, hg, _⟩⟩ := h
    · simp only [Value.slice.injEq] at hv
      obtain ⟨rfl, _, rfl⟩ := hv
      exact run_convert_bytes_nil (P := P) w src e hs he 0 0 dst hd
    · simp only [Value.slice.injEq] at hv
      obtain ⟨rfl, _, rfl⟩ := hv
      exact run_str_cells w src e hs he g 0 cap [] 0 rfl (fun i c hi => by simp at hi) dst hd
  · have hpos : 0 < l.length := List.length_pos_iff.2 h0
    obtain ⟨b, off, rfl, _⟩ := hc 0 (by rw [bv_length]; exact hpos)
    refine run_str_cells w src e hs he b off cap l l.length rfl (fun i c hi => ?_) dst hd
    have hi' : i < (bv l).length := by rw [bv_length]; exact (List.getElem?_eq_some_iff.1 hi).1
    obtain ⟨b', off', e1, hcell⟩ := hc i hi'
    cases e1
    rw [hcell]
    have := bv_get? l i
    rw [hi, List.getElem?_eq_getElem hi'] at this
    exact this
end
theorem ret_str {a b : ByteArray} (h : a = b) : Ending.returned (.string a) = .returned (.string b) := by rw [h]
/-- Go's order on strings. -/
def ltS (a b : ByteArray) : Bool := decide (bts a < bts b)
def minT (a b : ByteArray) : ByteArray := if ltS b a = true then b else a
theorem bytesLess_ltS (a b : ByteArray) : Op.bytesLess a.toList b.toList = ltS a b := by
  unfold ltS bts; rw [Go.Proofs.bytesLess_eq, ByteArray.toList_eq, ByteArray.toList_eq]
theorem minS_minT (a b : ByteArray) : Lib.minS a b = minT a b := by
  unfold Lib.minS minT ltS bts
  simp only [decide_eq_true_eq]
  by_cases h : a.data.toList < b.data.toList
  · rw [if_pos (.inl h), if_neg (fun k => List.lt_asymm h k)]
  · by_cases h2 : b.data.toList < a.data.toList
    · rw [if_neg (fun k => k.elim h (fun k => by rw [k] at h2; exact List.lt_irrefl _ h2)), if_pos h2]
    · have e : a.data.toList = b.data.toList := List.le_antisymm (List.not_lt.1 h2) (List.not_lt.1 h)
      rw [if_pos (.inr e), if_neg h2]
theorem run_min_t {P : Program} (w : World) (ts : Array TypeId) (t : TypeId) (x y : ByteArray) : (Builtin.min_ ts t #[.string x, .string y]).run P w = .ok (.string (minT x y)) w := by
  rw [Lib.run_min_strs, minS_minT]
theorem minT_yes {a b : ByteArray} (h : ltS b a = true) : minT a b = b := if_pos h
theorem minT_no {a b : ByteArray} (h : ltS b a = false) : minT a b = a := if_neg (by simp [h])
theorem minT_self (a : ByteArray) : minT a a = a := by unfold minT; split <;> rfl
/-- A string's byte, under a name of its own, for the walk. -/
theorem byte_at {s : ByteArray} {j : Nat} (h : j < s.size) : ∃ c : UInt8, s[j] = c ∧ Hid ((bts s)[j]? = some c) ∧ (c.toNat : Int) < 256 := ⟨_, rfl, Lib.hid (bts_get h), by have := s[j].toNat_lt; omega⟩
theorem bytesRow_get {s : ByteArray} {cap i : Nat} {c : UInt8} (h : (bts s)[i]? = some c) : (bytesRow s cap)[i]? = some (.int .u8 (c.toNat : Int)) := by
  obtain ⟨hl, he⟩ := List.getElem?_eq_some_iff.1 h
  rw [bytesRow_at s _ i (by rw [bts_length] at hl; exact hl)]
  subst he
  rfl
theorem bytesRow_size (s : ByteArray) (cap : Nat) : s.size ≤ (bytesRow s cap).size := by
  rcases Nat.lt_or_ge (bytesRow s cap).size s.size with h | h
  · have := bytesRow_get (cap := cap) (bts_get h)
    rw [Array.getElem?_eq_none (Nat.le_refl _)] at this
    cases this
  · exact h
theorem frozen_mark (w : World) (C : Array Value) (t : TypeId) (j : Nat) (h : j < C.size) : (w.alloc (.cells C t (C.size, C.size + 1))).frozen? ⟨w.heap.size, j, none⟩ = false := by
  have e : (w.alloc (.cells C t (C.size, C.size + 1))).heap[w.heap.size]? = some (.cells C t (C.size, C.size + 1)) := by
    show (w.heap.push _)[w.heap.size]? = _
    simp
  unfold World.frozen?
  simp only [e]
  simp; omega
theorem getD_of {l : List UInt8} {i : Nat} {c : UInt8} (h : l[i]? = some c) : l.getD i 0 = c := by simp [List.getD, h]
end Go.Proofs.YtkohadoicebojaaGreatDoor
