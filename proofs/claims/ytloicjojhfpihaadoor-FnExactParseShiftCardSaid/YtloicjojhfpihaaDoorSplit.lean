/- SplitByte, the program's (by the library's contract) and the reference's. No statement is proved here. -/
import Derived.Test.YtloicjojhfpihaaDoorStrsH
import Derived.Test.YtloicjojhfpihaaDoorApp
import Derived.Test.YtloicjojhfpihaaDoorMl
import Derived.Test.YtloicjojhfpihaaDoorShelf
import Derived.Lib.SplitLaws
namespace Go.Proofs.YtloicjojhfpihaaDoor
open Go.RowKit Go.Deep
/-- The parts between the bytes b, the first of them begun with acc. -/
def cutA (b : UInt8) : List UInt8 → List UInt8 → List (List UInt8)
  | acc, [] => [acc]
  | acc, x :: r => if x = b then acc :: cutA b [] r else cutA b (acc ++ [x]) r
def pre (x : UInt8) : List (List UInt8) → List (List UInt8)
  | [] => []
  | h :: t => (x :: h) :: t
theorem cutA_pre (b x : UInt8) : ∀ r acc, cutA b (x :: acc) r = pre x (cutA b acc r) := by
  intro r
  induction r with
  | nil => intro acc; rfl
  | cons y r ih =>
    intro acc
    unfold cutA
    by_cases h : y = b
    · rw [if_pos h, if_pos h]; rfl
    · rw [if_neg h, if_neg h, List.cons_append, ih]
theorem isPrefix_one_ne {b x : UInt8} (h : x ≠ b) (r : List UInt8) : ([b].isPrefixOf (x :: r)) = false := by
  simp [List.isPrefixOf, Ne.symm h]
theorem splitK_pre {b x : UInt8} (h : x ≠ b) (k : Nat) (r : List UInt8) : Lib.splitK [b] 0 k (x :: r) = pre x (Lib.splitK [b] 0 k r) := by
  cases k with
  | zero => rfl
  | succ k =>
    have e : Lib.index (x :: r) [b] = if Lib.index r [b] == -1 then -1 else Lib.index r [b] + 1 := by
      rw [Lib.index, if_neg (by rw [isPrefix_one_ne h]; simp)]
    have hge := Lib.index_ge r [b]
    unfold Lib.splitK
    rw [e]
    by_cases hm : (Lib.index r [b] == -1) = true
    · rw [if_pos hm, if_pos hm, if_pos (by rfl)]; rfl
    · have hne : Lib.index r [b] ≠ -1 := fun e => hm (beq_iff_eq.2 e)
      rw [if_neg hm, if_neg hm, if_neg (fun e => by have := beq_iff_eq.1 e; omega)]
      obtain ⟨i, hi⟩ : ∃ i : Nat, Lib.index r [b] = i := ⟨(Lib.index r [b]).toNat, by omega⟩
      rw [hi, show ((i : Int) + 1).toNat = i + 1 by omega, Int.toNat_natCast]
      simp [pre, List.take_succ_cons]
theorem split_cutA (b : UInt8) : ∀ s, Lib.splitK [b] 0 (Lib.count s [b]) s = cutA b [] s := by
  intro s
  induction s with
  | nil => rfl
  | cons x r ih =>
    by_cases h : x = b
    · subst h
      rw [Lib.count_cons_eq, Nat.add_comm]
      unfold Lib.splitK cutA
      have e : Lib.index (x :: r) [x] = 0 := by rw [Lib.index, if_pos (by simp [List.isPrefixOf])]
      rw [e, if_neg (by simp), if_pos rfl]
      simp [ih]
    · rw [Lib.count_cons_ne _ _ _ h, splitK_pre h, ih]
      rw [cutA, if_neg h, List.nil_append, cutA_pre]
theorem byte_of {x : Int} (wx : (Lit.int .u8 x).wf = true) : ∃ b : UInt8, x = (b.toNat : Int) := by
  have hx : IntKind.u8.min ≤ x ∧ x ≤ IntKind.u8.max := by simpa [Lit.wf] using wx
  have h1 : IntKind.u8.min = 0 := rfl
  have h2 : IntKind.u8.max = 255 := rfl
  rw [h1, h2] at hx
  obtain ⟨n, rfl⟩ : ∃ n : Nat, x = n := ⟨x.toNat, by omega⟩
  refine ⟨UInt8.ofNat n, ?_⟩
  have : (UInt8.ofNat n).toNat = n := by simp [UInt8.toNat_ofNat']; omega
  rw [this]
def splL (s : ByteArray) (b : UInt8) : List ByteArray := (cutA b [] (bts s)).map str
theorem splL_of {s : ByteArray} {b : UInt8} {l : List ByteArray} (h : l.map bts = cutA b [] (bts s)) : splL s b = l := by
  unfold splL
  rw [← h, List.map_map]
  exact (List.map_congr_left fun x _ => str_bts x).trans (List.map_id l)
theorem splitB_splL (s : ByteArray) (b : UInt8) : Lib.splitB ⟨#[b]⟩ 0 (Lib.countB s ⟨#[b]⟩) s = splL s b := by
  refine (splL_of ?_).symm
  have h := Lib.splitB_data ⟨#[b]⟩ 0 (Lib.countB s ⟨#[b]⟩) s
  exact h.trans (split_cutA b (bts s))
theorem countB_small (s : ByteArray) (b : UInt8) : Lib.countB s ⟨#[b]⟩ ≤ s.size := Lib.countB_le ⟨#[b]⟩ (Nat.le_refl 1) s.size s (Nat.le_refl _)
theorem splL_len (s : ByteArray) (b : UInt8) : (splL s b).length = Lib.countB s ⟨#[b]⟩ + 1 := by
  rw [← splitB_splL]
  exact Lib.splitB_all ⟨#[b]⟩ (Nat.le_refl 1) 0 _ s rfl
theorem splL_small (s : ByteArray) (b : UInt8) (h : s.size ≤ 1048576) : (splL s b).length ≤ 1048577 := by
  rw [splL_len]
  have := countB_small s b
  omega
theorem drop_take_snoc {l : List UInt8} {f j : Nat} {c : UInt8} (h : l[j]? = some c) (hf : f ≤ j) : (l.take (j + 1)).drop f = (l.take j).drop f ++ [c] := by
  rw [take_snoc h]
  have hj : j < l.length := (List.getElem?_eq_some_iff.1 h).1
  rw [List.drop_append_of_le_length (by rw [List.length_take]; omega)]
theorem drop_cons {l : List UInt8} {j : Nat} {c : UInt8} (h : l[j]? = some c) : l.drop j = c :: l.drop (j + 1) := by
  obtain ⟨hj, e⟩ := List.getElem?_eq_some_iff.1 h
  rw [List.drop_eq_getElem_cons hj, e]
/-- Where the reference stands: the parts so far, the part that is begun, what is left. -/
def At (s : ByteArray) (b : UInt8) (done : List ByteArray) (f j : Nat) : Prop := done.map bts ++ cutA b (((bts s).take j).drop f) ((bts s).drop j) = cutA b [] (bts s)
theorem at_zero (s : ByteArray) (b : UInt8) : At s b [] 0 0 := by simp [At]
theorem at_hit {s : ByteArray} {b c : UInt8} {done : List ByteArray} {f j : Nat} (h : At s b done f j) (hc : (bts s)[j]? = some c) (e : c = b) : At s b (done ++ [s.extract f j]) (j + 1) (j + 1) := by
  unfold At at h ⊢
  rw [drop_cons hc, cutA, if_pos e] at h
  rw [List.map_append, List.map_cons, List.map_nil, bts_extract, List.append_assoc, List.singleton_append, ← h]
  have : List.drop (j + 1) (List.take (j + 1) (bts s)) = [] := List.drop_eq_nil_of_le (by rw [List.length_take]; omega)
  rw [this]
theorem at_miss {s : ByteArray} {b c : UInt8} {done : List ByteArray} {f j : Nat} (h : At s b done f j) (hc : (bts s)[j]? = some c) (hf : f ≤ j) (e : ¬ c = b) : At s b done f (j + 1) := by
  unfold At at h ⊢
  rw [drop_cons hc, cutA, if_neg e] at h
  rw [drop_take_snoc hc hf]
  exact h
theorem at_end {s : ByteArray} {b : UInt8} {done : List ByteArray} {f : Nat} (h : At s b done f s.size) : splL s b = done ++ [s.extract f s.size] := by
  refine splL_of ?_
  unfold At at h
  have e : (bts s).drop s.size = [] := List.drop_eq_nil_of_le (by rw [bts_length]; exact Nat.le_refl _)
  rw [e, cutA] at h
  rw [List.map_append, List.map_cons, List.map_nil, bts_extract, h]
theorem at_len {s : ByteArray} {b : UInt8} {done : List ByteArray} {f j : Nat} (h : At s b done f j) : done.length ≤ Lib.countB s ⟨#[b]⟩ + 1 := by
  have e := congrArg List.length h
  rw [List.length_append, List.length_map] at e
  have e2 := splL_len s b
  unfold splL at e2
  rw [List.length_map] at e2
  omega
set_option maxRecDepth 10000 in
set_option maxHeartbeats 400000 in
theorem sSplitByte (s : ByteArray) (b : UInt8) (w : World) (hs : s.size ≤ 1048576) :
    Calls Tryd.prog 15 #[.string s, .int .u8 (b.toNat : Int)] w fun e w' => ∃ v', e = .returned v' ∧ OwnS 9 w.heap.size w' v' (splL s b) ∧ Below w.heap.size w w' := by
  have HLN : ∀ done f j, At s b done f j → Hid (done.length ≤ 1048577) := fun done f j h => Lib.hid (by have := at_len h; have := countB_small s b; omega)
  go_enter Tryd.func15, Tryd.ntmps15
  go_wp2
  go_loopw [5, 6, 7] (fun q f i wr => ∃ (j g : Nat) (done : List ByteArray), j ≤ s.size + 1 ∧ g ≤ j ∧ i = .int .i64 j ∧ f = .int .i64 g ∧ Hid (j ≤ s.size → At s b done g j) ∧ Hid (s.size < j → splL s b = done) ∧ Own 9 w.heap.size wr q (strs done) ∧ Below w.heap.size w wr) (fun _ _ i _ => s.size + 1 - (intOf i).toNat)
  case atStart => exact ⟨0, 0, [], by omega, Nat.le_refl _, rfl, rfl, Lib.hid fun _ => at_zero s b, Lib.hid fun h => by omega, Own.empty _ _, below_alloc _ _⟩
  case round =>
    obtain ⟨j, g, done, hj, hg, rfl, rfl, HA, HE, hq, hb⟩ := hrel
    have hsq := hb.size
    by_cases hle : j ≤ s.size
    · have HD := HLN _ _ _ (HA.out hle)
      by_cases hlt : j < s.size
      · obtain ⟨c, hc, HC, hc2⟩ := byte_at hlt
        have hj1 : ((j : Int) == (s.size : Int)) = false := beq_eq_false_iff_ne.2 (by omega)
        by_cases hcb : (c.toNat : Int) = (b.toNat : Int)
        · have hcb' : c = b := UInt8.toNat_inj.1 (by omega)
          subst hcb'
          have hj2 : ((c.toNat : Int) == (c.toNat : Int)) = true := beq_self_eq_true _
          have HN := Lib.hid (at_hit (HA.out hle) HC.out rfl)
          obtain ⟨y, hy⟩ : ∃ y, s.extract g j = y := ⟨_, rfl⟩
          rw [hy] at HN
          go_wp2_with (at_builtin; refine app1 22 9 16 (.string ByteArray.empty) Tryd.underlying22 Tryd.infoStr rfl hq (.string y) rfl ?h1 ?h2 hsq rfl _ _ rfl rfl rfl (by simp) ?_)
          case h1 => rw [strs_length]; have := HD.out; unfold maxLen; omega
          case h2 => rw [strs_length]; have := HD.out; omega
          intro q' w4 hq4 hg4 _
          go_wp2
          go_roundw
          case rel => exact ⟨j + 1, j + 1, done ++ [y], by omega, by omega, by go_num, by go_num, Lib.hid fun _ => HN.out, Lib.hid fun h => by omega, by rw [strs_append]; exact hq4, hb.trans (hq.below hg4 (Nat.le_refl _) hsq)⟩
          case measure => simp [intOf]; omega
        · have hj2 : ((c.toNat : Int) == (b.toNat : Int)) = false := beq_eq_false_iff_ne.2 hcb
          have HN := Lib.hid (at_miss (HA.out hle) HC.out hg fun e => hcb (by rw [e]))
          go_wp2
          go_roundw
          case rel => exact ⟨j + 1, g, done, by omega, by omega, by go_num, by go_num, Lib.hid fun _ => HN.out, Lib.hid fun h => by omega, hq, hb⟩
          case measure => simp [intOf]; omega
      · have e : j = s.size := by omega
        subst e
        have HN := Lib.hid (at_end (HA.out hle))
        obtain ⟨y, hy⟩ : ∃ y, s.extract g s.size = y := ⟨_, rfl⟩
        rw [hy] at HN
        go_wp2_with (at_builtin; refine app1 22 9 16 (.string ByteArray.empty) Tryd.underlying22 Tryd.infoStr rfl hq (.string y) rfl ?h1 ?h2 hsq rfl _ _ rfl rfl rfl (by simp) ?_)
        case h1 => rw [strs_length]; have := HD.out; unfold maxLen; omega
        case h2 => rw [strs_length]; have := HD.out; omega
        intro q' w4 hq4 hg4 _
        go_wp2
        go_roundw
        case rel => exact ⟨s.size + 1, s.size + 1, done ++ [y], by omega, by omega, by go_num, by go_num, Lib.hid fun h => by omega, Lib.hid fun _ => HN.out, by rw [strs_append]; exact hq4, hb.trans (hq.below hg4 (Nat.le_refl _) hsq)⟩
        case measure => simp [intOf]
    · have HN := Lib.hid (HE.out (by omega))
      go_wp2
      go_ret
      exact ⟨_, rfl, by rw [HN.out]; exact hq, hb⟩
end Go.Proofs.YtloicjojhfpihaaDoor
