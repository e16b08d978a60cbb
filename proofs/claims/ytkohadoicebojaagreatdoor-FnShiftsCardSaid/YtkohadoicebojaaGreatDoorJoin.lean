/- Join, the program's (by the library's contract) and the reference's. No statement is proved here. -/
import Derived.Test.YtkohadoicebojaaGreatDoorStrsH
import Derived.Test.YtkohadoicebojaaGreatDoorApp
import Derived.Test.YtkohadoicebojaaGreatDoorShelf
import Derived.Lib.AppendStr
import Derived.Lib.Join
namespace Go.Proofs.YtkohadoicebojaaGreatDoor
open Go.RowKit Go.Deep
theorem strCells_bv (s : ByteArray) : Lib.strCells s = bv (bts s) := by
  unfold Lib.strCells bv bts
  simp
theorem info_byte : (Tryz.prog.info? 5).map (fun i => (i.zero, i.size, i.bytes)) = some (some (.int .u8 0), 1, 1) := by kernel_rfl
/-- 'out = append(out, s...)' of a string's bytes. -/
theorem appStr {P : Program} {wr : World} {ops : Array Oper} {rest : List Oper} {o : Oper} {a : Act} {Q : Exit → Act → World → Prop} (t u e : TypeId) (ht : P.underlying t = some (.slice e)) (hu : P.underlying u = some .string)
    (hinfo : (P.info? e).map (fun i => (i.zero, i.size, i.bytes)) = some (some (.int .u8 0), 1, 1)) {B : Nat} {v : Value} {l : List UInt8} (hown : Own e B wr v (bv l)) (s : ByteArray)
    (hlen : l.length + s.size ≤ 100000000000000) (hB : B ≤ wr.heap.size) (hgd : o.guard = none) (sl x : Operand)
    (ho : o.op = .call { callee := .builtin .append, args := #[sl, x], argTypes := #[t, u] }) (hs : a.eval sl = v) (hx : a.eval x = .string s)
    (K : ∀ v' w', Own e B w' v' (bv (l ++ bts s)) → wr.grownBy w' v.ownBlock → wpList P ops Q rest (a.put o.dst v') w') : wpList P ops Q (o :: rest) a wr := by
  obtain ⟨i0, hi, h0, h1, h2⟩ := info_parts hinfo
  refine Lib.wpList_append_own_string wr hgd sl x t u ho B e i0 ht hu hi h0 h1 h2 v _ _ hs hown s hx (by rw [bv_length]; unfold maxLen; omega) (by rw [bv_length]; omega) hB ?_
  intro v' w' hown' hg _
  refine K v' w' ?_ hg
  rw [strCells_bv, ← bv_append] at hown'
  have e : (bv (l ++ bts s)).length = (bv l).length + s.size := by rw [bv_length, List.length_append, bv_length, bts_length]
  unfold Own
  rw [e]
  exact hown'
/-- The first j texts, joined. -/
def jn (l : List ByteArray) (b : ByteArray) (j : Nat) : List UInt8 := Lib.join ((l.take j).map bts) (bts b)
theorem jn_zero (l : List ByteArray) (b : ByteArray) : jn l b 0 = [] := rfl
theorem jn_one {l : List ByteArray} {b x : ByteArray} (h : l[0]? = some x) : jn l b 1 = bts x := by
  unfold jn
  rw [take_snoc h]
  exact Lib.join_one _ _
theorem jn_succ {l : List ByteArray} {b x : ByteArray} {j : Nat} (h : l[j + 1]? = some x) : jn l b (j + 2) = jn l b (j + 1) ++ bts b ++ bts x := by
  unfold jn
  cases l with
  | nil => simp at h
  | cons y r =>
    have h' : (r.map bts)[j]? = some (bts x) := by
      have h2 : r[j]? = some x := by simpa using h
      rw [List.getElem?_map, h2]; rfl
    rw [List.take_succ_cons, List.take_succ_cons, List.map_cons, List.map_cons, Lib.join_cons, Lib.join_cons, List.map_take, List.map_take, Lib.joinTail_take_succ (bts b) (r.map bts) j (bts x) h']
    simp [List.append_assoc]
theorem jn_all (l : List ByteArray) (b : ByteArray) {n : Nat} (h : l.length = n) : jn l b n = Lib.join (l.map bts) (bts b) := by unfold jn; rw [List.take_of_length_le (by omega)]
theorem jn_len (l : List ByteArray) (b : ByteArray) : ∀ j, j ≤ l.length → (jn l b j).length ≤ b.size * j + totalS (l.take j) := by
  intro j
  induction j with
  | zero => intro _; rw [jn_zero]; simp
  | succ j ih =>
    intro hj
    have hx := List.getElem?_eq_getElem (show j < l.length by omega)
    rw [totalS_take_succ hx]
    cases j with
    | zero => rw [jn_one hx, bts_length]; omega
    | succ j =>
      rw [jn_succ hx, List.length_append, List.length_append, bts_length, bts_length]
      have := ih (by omega)
      rw [Nat.mul_succ]; omega
theorem totalS_take_le (l : List ByteArray) (j : Nat) : totalS (l.take j) ≤ totalS l := by
  have h : totalS l = totalS (l.take j) + totalS (l.drop j) := by
    unfold totalS
    rw [← List.sum_append, ← List.map_append, List.take_append_drop]
  omega
theorem jn_small {l : List ByteArray} {b : ByteArray} (hl : l.length + totalS l ≤ 1048576) (hb : b.size ≤ 1048576) {j : Nat} (hj : j ≤ l.length) : (jn l b j).length ≤ 1099512676352 := by
  have h1 := jn_len l b j hj
  have h2 := totalS_take_le l j
  have h3 : b.size * j ≤ 1048576 * 1048576 := Nat.mul_le_mul hb (by omega)
  omega
def joined (l : List ByteArray) (b : ByteArray) : ByteArray := str (Lib.join (l.map bts) (bts b))
set_option maxRecDepth 10000 in
set_option maxHeartbeats 400000 in
theorem sJoin (v : Value) (l : List ByteArray) (b : ByteArray) (w : World) (h : Strs w v l) (hl : l.length + totalS l ≤ 1048576) (hb : b.size ≤ 1048576) :
    Calls Tryz.prog 77 #[v, .string b] w fun e w' => e = .returned (.string (joined l b)) ∧ Below w.heap.size w w' := by
  obtain ⟨a, n, cap, rfl, HL, hn, HC⟩ := h.open
  have n1 : n ≤ 1048576 := by have := HL.out; omega
  have HLL := Lib.hid hl; clear hl h
  have HJ : ∀ j, j ≤ n → Hid ((jn l b j).length ≤ 1099512676352) := fun j hj => Lib.hid (jn_small HLL.out hb (by rw [HL.out]; exact hj))
  have HSZ : ∀ (j : Nat) x, l[j]? = some x → x.size ≤ 1048576 := fun j x hx => by
    have := size_le_totalS (List.mem_of_getElem? hx)
    have := HLL.out
    omega
  have HX2 := Lib.hid HSZ; clear HSZ
  go_enter Tryz.func77, Tryz.ntmps77
  go_wp2
  go_loopw [5, 6] (fun q i wr => ∃ j : Nat, j ≤ n ∧ i = .int .i64 j ∧ Own 5 w.heap.size wr q (bv (jn l b j)) ∧ Below w.heap.size w wr) (fun _ i _ => n - (intOf i).toNat)
  case atStart => exact ⟨0, Nat.zero_le _, rfl, Own.empty _ _, below_alloc _ _⟩
  case round =>
    obtain ⟨j, hj, rfl, hq, hbq⟩ := hrel
    have hsq := hbq.size
    by_cases hlt : j < n
    · obtain ⟨bk, off, x, rfl, hc, HX⟩ := HC.out j hlt
      have hc1 := cell_keep hbq hc
      have hxs := HX2.out j x HX.out
      have hJ1 := (HJ j hj).out
      cases j with
      | zero =>
        rw [Nat.add_zero] at hc1
        have HS := Lib.hid (jn_one (b := b) HX.out)
        rw [jn_zero] at hq
        clear hJ1
        go_wp2_with (at_builtin; refine appStr 22 9 5 Tryz.underlying22 Tryz.underlying9 info_byte hq x ?h1 hsq rfl _ _ rfl rfl rfl ?_)
        case h1 => simp; omega
        intro q' w2 hq2 hg
        go_wp2
        go_roundw
        case rel => exact ⟨1, by omega, by go_num, by rw [HS.out]; simpa using hq2, hbq.trans (hq.below hg (Nat.le_refl _) hsq)⟩
        case measure => simp [intOf]; omega
      | succ j =>
        have HS := Lib.hid (jn_succ (b := b) HX.out)
        go_wp2_with (at_builtin; refine appStr 22 9 5 Tryz.underlying22 Tryz.underlying9 info_byte hq b ?h1 hsq rfl _ _ rfl rfl rfl ?_)
        case h1 => omega
        intro q1 w1 hq1 hg1
        have hb1 := hbq.trans (hq.below hg1 (Nat.le_refl _) hsq)
        have hs1 := hb1.size
        have hc2 := cell_keep hb1 hc
        go_wp2_with (at_builtin; refine appStr 22 9 5 Tryz.underlying22 Tryz.underlying9 info_byte hq1 x ?h2 hs1 rfl _ _ rfl rfl rfl ?_)
        case h2 => rw [List.length_append, bts_length]; omega
        intro q2 w2 hq2 hg2
        go_wp2
        go_roundw
        case rel => exact ⟨j + 2, by omega, by go_num, by rw [HS.out, List.append_assoc]; exact hq2, hb1.trans (hq1.below hg2 (Nat.le_refl _) hs1)⟩
        case measure => simp [intOf]; omega
    · have e : j = n := by omega
      subst e
      have hr := run_str_own (P := Tryz.prog) wr 22 5 Tryz.underlying22 Tryz.underlying5 hq 9 Tryz.underlying9
      have HA := Lib.hid (jn_all l b HL.out)
      go_wp2
      go_ret
      exact ⟨ret_str (by unfold joined; rw [← HA.out]), hbq⟩
end Go.Proofs.YtkohadoicebojaaGreatDoor
