/- Join, the program's (by the library's contract) and the reference's. No statement is proved here. -/
import Derived.Test.YtmlnfbhlfhifiaaDoorStrsH
import Derived.Test.YtmlnfbhlfhifiaaDoorApp
import Derived.Test.YtmlnfbhlfhifiaaDoorShelf
import Derived.Lib.AppendStr
import Derived.Lib.Join
namespace Go.Proofs.YtmlnfbhlfhifiaaDoor
open Go.RowKit Go.Deep
theorem strCells_bv (s : ByteArray) : Lib.strCells s = bv (bts s) := by
  unfold Lib.strCells bv bts
  simp
theorem info_byte : (Tryd.prog.info? 5).map (fun i => (i.zero, i.size, i.bytes)) = some (some (.int .u8 0), 1, 1) := by kernel_rfl
/-- 'out = append(out, s...)' of a string's bytes. -/
theorem appStr {P : Program} {wr : World} {ops : Array Oper} {rest : List Oper} {o : Oper} {a : Act} {Q : Exit → Act → World → Prop} (t u e : TypeId) (ht : P.underlying t = some (.slice e)) (hu : P.underlying u = some .string)
    (hinfo : (P.info? e).map (fun i => (i.zero, i.size, i.bytes)) = some (some (.int .u8 0), 1, 1)) {B : Nat} {v : Value} {l : List UInt8} (hown : Own e B wr v (bv l)) (s : ByteArray)
    (hlen : l.length + s.size ≤ 100000000000000) (hB : B ≤ wr.heap.size) (hgd : o.guard = none) (sl x : Operand)
    (ho : o.op = .call { callee := .builtin .append, args := #[sl, x], argTypes := #[t, u] }) (hs : a.eval sl = v) (hx : a.eval x = .string s)
    (K : ∀ v' w', Own e B w' v' (bv (l ++ bts s)) → wr.grownBy w' v.ownBlock → wpList P ops Q rest (a.put o.dst v') w') : wpList P ops Q (o :: rest) a wr := by
  obtain ⟨i0, hi, h0, h1, h2⟩ := info_parts hinfo
  refine Lib.wpList_append_own_string wr hgd sl x t u ho B e i0 ht hu hi h0 h1 h2 v _ _ hs hown s hx (by rw [bv_length]; unfold maxLen; omega) (by rw [bv_length]; omega) hB ?_
  intro v' w' hown' hg _
  refine K v' w' ?_ hg
  rw [strCells_bv, ← bv_append] at hown'
  have e : (bv (l ++ bts s)).length = (bv l).length + s.size := by rw [bv_length, List.length_append, bv_length, bts_length]
  unfold Own
  rw [e]
  exact hown'
/-- The first j texts, joined. -/
def jn (l : List ByteArray) (b : ByteArray) (j : Nat) : List UInt8 := Lib.join ((l.take j).map bts) (bts b)
theorem jn_zero (l : List ByteArray) (b : ByteArray) : jn l b 0 = [] := rfl
theorem jn_one {l : List ByteArray} {b x : ByteArray} (h : l[0]? = some x) : jn l b 1 = bts x := by
  unfold jn
  rw [take_snoc h]
  exact Lib.join_one _ _
theorem jn_succ {l : List ByteArray} {b x : ByteArray} {j : Nat} (h : l[j + 1]? = some x) : jn l b (j + 2) = jn l b (j + 1) ++ bts b ++ bts x := by
  unfold jn
  cases l with
  | nil => simp at h
  | cons y r =>
    have h' : (r.map bts)[j]? = some (bts x) := by
      have h2 : r[j]? = some x := by simpa using h
      rw [List.getElem?_map, h2]; rfl
    rw [List.take_succ_cons, List.take_succ_cons, List.map_cons, List.map_cons, Lib.join_cons, Lib.join_cons, List.map_take, List.map_take, Lib.joinTail_take_succ (bts b) (r.map bts) j (bts x) h']
    simp [List.append_assoc]
theorem jn_all (l : List ByteArray) (b : ByteArray) {n : Nat} (h : l.length = n) : jn l b n = Lib.join (l.map bts) (bts b) := by unfold jn; rw [List.take_of_length_le (by omega)]
theorem jn_len (l : List ByteArray) (b : ByteArray) : ∀ j, j ≤ l.length → (jn l b j).length ≤ b.size * j + totalS (l.take j) := by
  intro j
  induction j with
  | zero => intro _; rw [jn_zero]; simp
  | succ j ih =>
    intro hj
    have hx := List.getElem?_eq_getElem (show j < l.length by omega)
    rw [totalS_take_succ hx]
    cases j with
    | zero => rw [jn_one hx, bts_length]; omega
    | succ j =>
      rw [jn_succ hx, List.length_append, List.length_append, bts_length, bts_length]
      have := ih (by omega)
      rw [Nat.mul_succ]; omega
theorem totalS_take_le (l : List ByteArray) (j : Nat) : totalS (l.take j) ≤ totalS l := by
  have h : totalS l = totalS (l.take j) + totalS (l.drop j) := by
    unfold totalS
    rw [← List.sum_append, ← List.map_append, List.take_append_drop]
  omega
theorem jn_small {l : List ByteArray} {b : ByteArray} (hl : l.length + totalS l ≤ 1048576) (hb : b.size ≤ 1048576) {j : Nat} (hj : j ≤ l.length) : (jn l b j).length ≤ 1099512676352 := by
  have h1 := jn_len l b j hj
  have h2 := totalS_take_le l j
  have h3 : b.size * j ≤ 1048576 * 1048576 := Nat.mul_le_mul hb (by omega)
  omega
def joined (l : List ByteArray) (b : ByteArray) : ByteArray := str (Lib.join (l.map bts) (bts b))
set_option maxRecDepth 10000 in
set_option maxHeartbeats 400000 in
theorem iJoin (v : Value) (l : List ByteArray) (b : ByteArray) (w : World) (h : Strs w v l) (hl : l.length + totalS l ≤ 1048576) (hb : b.size ≤ 1048576) :
    Calls Tryd.prog 12 #[v, .string b] w fun e w' => e = .returned (.string (joined l b)) ∧ Below w.heap.size w w' := by
  obtain ⟨a, cap, rfl, hcap, hm, hc⟩ := h
  rw [strs_length] at hcap ⊢
  have hlen : (Lib.join (l.map bts) (bts b)).length ≤ 140737488355328 := by
    rw [← jn_all l b rfl]
    have := jn_small hl hb (Nat.le_refl _)
    omega
  have key : Calls Tryd.prog 18 #[.slice a l.length cap, .string b] w fun e w' => e = .returned (.string (joined l b)) ∧ Below w.heap.size w w' := by
    by_cases h0 : l = []
    · subst h0
      refine (Tryd.strings_Join_none a cap b w).mono ?_
      rintro e w' ⟨rfl, rfl⟩
      exact ⟨rfl, Below.refl _ _⟩
    · have hpos : 0 < l.length := List.length_pos_iff.2 h0
      obtain ⟨bk, off, rfl, hc0⟩ := hc 0 (by rw [strs_length]; exact hpos)
      refine (Tryd.strings_Join bk off cap l b w (fun j x hj => ?_) (World.block_lt_of_cell? w _ hc0) (by omega) (by omega) hlen).mono ?_
      · have hj' : j < l.length := (List.getElem?_eq_some_iff.1 hj).1
        obtain ⟨bk', off', e1, hcell⟩ := hc j (by rw [strs_length]; exact hj')
        cases e1
        rw [hcell, strs_get]
        rw [List.getElem?_eq_getElem hj'] at hj
        rw [Option.some.inj hj]
      · rintro e w' ⟨rfl, hb2⟩
        exact ⟨rfl, hb2⟩
  have HK := Lib.hid key; clear key hlen hc
  go_enter Tryd.func12, Tryd.ntmps12
  go_wp2_with fail
  refine HK.out.mono ?_
  rintro e w' ⟨rfl, hb2⟩
  go_wp2
  go_ret
  exact ⟨rfl, hb2⟩
end Go.Proofs.YtmlnfbhlfhifiaaDoor
