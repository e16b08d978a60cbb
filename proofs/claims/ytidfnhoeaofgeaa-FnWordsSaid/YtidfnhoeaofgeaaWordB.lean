/- Contracts of the functions that turn and mirror words, the program's and the reference's. No statement is proved here. -/
import Derived.Test.YtidfnhoeaofgeaaWordA
import Derived.Test.YtidfnhoeaofgeaaApp
namespace Go.Proofs.Ytidfnhoeaofgeaa
open Go.RowKit Go.Deep
set_option maxRecDepth 10000 in
set_option maxHeartbeats 400000 in
theorem iTurnWord (s : ByteArray) (n : Int) (w : World) (hs : s.size ≤ 1048576) :
    Calls Try.prog 38 #[.string s, .int .i64 n] w fun e w' => e = .returned (.string (turn s n)) ∧ Drawn w w' := by
  by_cases h0 : s.size = 0
  · obtain rfl := size_zero h0
    clear h0
    go_enter Try.func38, Try.ntmps38
    go_wp2
    go_ret
    exact ⟨ret_str (turn_empty rfl n).symm, Drawn.refl _⟩
  · have he := notEmpty h0
    cases hw : isWord 3 s
    · have HW := Lib.hid hw; clear hw
      go_enter Try.func38, Try.ntmps38
      go_wp2_with (go_at_call 47; refine (iIsWord _ _ _ hs).mono ?_; rintro e w' ⟨rfl, rfl⟩; rw [HW.out])
      go_ret
      exact ⟨ret_str (turn_no HW.out n).symm, Drawn.refl _⟩
    · have HW := Lib.hid hw; clear hw
      have HY := Lib.hid (turn_yes h0 HW.out n)
      have hlt := turnAt_lt n h0
      have tb := tmod_bounds n h0
      have tb1 := tb.1
      have tb2 := tb.2
      clear tb
      have e1 := tmod_both n h0
      generalize turnAt n s.size = k at *
      go_enter Try.func38, Try.ntmps38
      go_wp2_with (go_at_call 47; refine (iIsWord _ _ _ hs).mono ?_; rintro e w' ⟨rfl, rfl⟩; rw [HW.out])
      go_quiet (fail)
      go_wp2
      go_ret
      exact ⟨ret_str (by rw [HY.out]; rfl), Drawn.one _ _⟩
/-- The least of the first k turns of a word. -/
def leastTo (s : ByteArray) : Nat → ByteArray
  | 0 => turn s 0
  | k + 1 => minT (leastTo s k) (turn s k)
def least (s : ByteArray) : ByteArray := leastTo s (turn s 0).size
theorem turn_size (s : ByteArray) (n : Int) : (turn s n).size = s.size ∨ (turn s n).size = 0 := by
  by_cases h0 : s.size = 0
  · rw [turn_empty h0]; exact .inr rfl
  · cases hw : isWord 3 s
    · rw [turn_no hw]; exact .inr rfl
    · rw [turn_yes h0 hw]
      left
      have := turnAt_lt n h0
      simp [turnedAt, ByteArray.size_append, ByteArray.size_extract]; omega
theorem turn_size_eq (s : ByteArray) (n m : Int) : (turn s n).size = (turn s m).size := by
  by_cases h0 : s.size = 0
  · rw [turn_empty h0, turn_empty h0]
  · cases hw : isWord 3 s
    · rw [turn_no hw, turn_no hw]
    · have h1 := turnAt_lt n h0
      have h2 := turnAt_lt m h0
      rw [turn_yes h0 hw, turn_yes h0 hw]
      simp [turnedAt, ByteArray.size_append, ByteArray.size_extract]; omega
theorem minT_size {a b : ByteArray} {n : Nat} (ha : a.size = n) (hb : b.size = n) : (minT a b).size = n := by unfold minT; split <;> assumption
theorem leastTo_size (s : ByteArray) (k : Nat) : (leastTo s k).size = (turn s 0).size := by
  induction k with
  | zero => rfl
  | succ k ih => exact minT_size ih (turn_size_eq s k 0)
theorem leastTo_one (s : ByteArray) : leastTo s 1 = turn s 0 := minT_self _
theorem turn_nat {s : ByteArray} (h : 0 < (turn s 0).size) {k : Nat} (hk : k < (turn s 0).size) : turn s k = turnedAt s k ∧ k < s.size ∧ s.size = (turn s 0).size := by
  have h0 : ¬ s.size = 0 := fun e => by rw [turn_empty e] at h; exact absurd h (by decide)
  cases hw : isWord 3 s
  · rw [turn_no hw] at h; exact absurd h (by decide)
  · have hz : s.size = (turn s 0).size := by
      rcases turn_size s 0 with e | e
      · exact e.symm
      · omega
    refine ⟨?_, by omega, hz⟩
    rw [turn_yes h0 hw]
    unfold turnAt
    rw [Int.emod_eq_of_lt (by omega) (by omega), Int.toNat_natCast]
set_option maxRecDepth 10000 in
set_option maxHeartbeats 400000 in
theorem sLeastTurn (s : ByteArray) (w : World) (hs : s.size ≤ 1048576) :
    Calls Try.prog 50 #[.string s] w fun e w' => e = .returned (.string (least s)) ∧ Drawn w w' := by
  have hz : (turn s 0).size ≤ 1048576 := by rcases turn_size s 0 with e | e <;> omega
  have HZ := Lib.hid (leastTo_size s)
  have HN := Lib.hid (fun h => @turn_nat s h)
  have HD : Hid (least s = leastTo s (turn s 0).size) := Lib.hid rfl
  have HO := Lib.hid (leastTo_one s)
  have hb := bytesLess_ltS
  obtain ⟨N, hN⟩ : ∃ N, N = (turn s 0).size := ⟨_, rfl⟩
  have HNN := Lib.hid hN
  rw [← hN] at hz
  clear hN
  go_enter Try.func50, Try.ntmps50
  go_wp2_with (go_at_call 43; refine (sTurnWord _ _ _ hs).mono ?_; rintro e w1 ⟨rfl, hd1⟩)
  have HT := Lib.hid (show ∀ k, leastTo s k = leastTo s k from fun _ => rfl)
  go_loopw [3, 4] (fun b i wr => ∃ j : Nat, 1 ≤ j ∧ (j ≤ N ∨ (N = 0 ∧ j = 1)) ∧ i = .int .i64 j ∧ (∃ t, b = .string t ∧ Hid (t = leastTo s j) ∧ t.size = N) ∧ Drawn w wr) (fun _ i _ => N - (intOf i).toNat)
  case atStart => exact ⟨1, Nat.le_refl _, by omega, rfl, ⟨_, rfl, Lib.hid HO.out.symm, HNN.out.symm⟩, hd1⟩
  case round =>
    obtain ⟨j, hj1, hj, rfl, ⟨t, rfl, Ht, htz⟩, hd⟩ := hrel
    by_cases hlt : j < N
    · obtain ⟨e1, e2, e3⟩ := HN.out (by rw [← HNN.out]; omega) (show j < (turn s 0).size by rw [← HNN.out]; exact hlt)
      have E1 := Lib.hid e1; clear e1
      have E3 := Lib.hid e3; clear e3
      cases hl : ltS (turnedAt s j) t
      · have hl' : ltS (s.extract j s.size ++ s.extract 0 j) t = false := hl
        have HL := Lib.hid hl; clear hl
        go_wp2
        go_quiet (fail)
        go_wp2
        go_roundw
        case rel => exact ⟨j + 1, by omega, by omega, by go_num, ⟨t, rfl, Lib.hid (by rw [leastTo, E1.out, ← Ht.out, minT_no HL.out]), htz⟩, hd.drewN _⟩
        case measure => simp [intOf]; omega
      · have hl' : ltS (s.extract j s.size ++ s.extract 0 j) t = true := hl
        have HL := Lib.hid hl; clear hl
        go_wp2
        go_quiet (fail)
        go_wp2
        go_quiet (fail)
        go_wp2
        go_roundw
        case rel => exact ⟨j + 1, by omega, by omega, by go_num, ⟨_, rfl, Lib.hid (by rw [leastTo, E1.out, ← Ht.out, minT_yes HL.out]; rfl), by simp [ByteArray.size_append, ByteArray.size_extract]; have := E3.out; have := HNN.out; omega⟩, hd.drewN _⟩
        case measure => simp [intOf]; omega
    · go_wp2
      go_ret
      have e : leastTo s j = least s := by
        rw [HD.out, ← HNN.out]
        rcases hj with h | ⟨h1, h2⟩
        · rw [show j = N by omega]
        · rw [h1, h2, HO.out]; rfl
      exact ⟨ret_str (Ht.out.trans e), hd⟩
set_option maxRecDepth 10000 in
set_option maxHeartbeats 400000 in
theorem iLeastTurn (s : ByteArray) (w : World) (hs : s.size ≤ 1048576) :
    Calls Try.prog 49 #[.string s] w fun e w' => e = .returned (.string (least s)) ∧ Drawn w w' := by
  have hz : (turn s 0).size ≤ 1048576 := by rcases turn_size s 0 with e | e <;> omega
  have HD : Hid (least s = leastTo s (turn s 0).size) := Lib.hid rfl
  have hm := @run_min_t Try.prog
  obtain ⟨N, hN⟩ : ∃ N, N = (turn s 0).size := ⟨_, rfl⟩
  have HNN := Lib.hid hN
  rw [← hN] at hz
  have hN' := hN.symm
  clear hN
  go_enter Try.func49, Try.ntmps49
  go_wp2_with (go_at_call 38; refine (iTurnWord _ _ _ hs).mono ?_; rintro e w1 ⟨rfl, hd1⟩)
  go_loopw [3, 9] (fun b i wr => ∃ j : Nat, j ≤ N ∧ i = .int .i64 j ∧ (∃ t, b = .string t ∧ Hid (t = leastTo s j)) ∧ Drawn w wr) (fun _ i _ => N - (intOf i).toNat)
  case atStart => exact ⟨0, Nat.zero_le _, rfl, ⟨_, rfl, Lib.hid rfl⟩, hd1⟩
  case round =>
    obtain ⟨j, hj, rfl, ⟨t, rfl, Ht⟩, hd⟩ := hrel
    by_cases hlt : j < N
    · go_wp2_with (go_at_call 38; refine (iTurnWord _ _ _ hs).mono ?_; rintro e w2 ⟨rfl, hd2⟩)
      go_roundw
      case rel => exact ⟨j + 1, by omega, by go_num, ⟨_, rfl, Lib.hid (by rw [Ht.out]; rfl)⟩, hd.trans hd2⟩
      case measure => simp [intOf]; omega
    · go_wp2
      go_ret
      exact ⟨ret_str (by rw [Ht.out, HD.out, ← HNN.out, show j = N by omega]), hd⟩
def mirror (s : ByteArray) : ByteArray := str (bts s).reverse
theorem drop_rev_step {l : List UInt8} {k : Nat} {c : UInt8} (h : l[k]? = some c) : (l.drop k).reverse = (l.drop (k + 1)).reverse ++ [c] := by
  rw [List.drop_eq_getElem_cons (List.getElem?_eq_some_iff.1 h).1, List.reverse_cons, (List.getElem?_eq_some_iff.1 h).2]
theorem Try.infoByte : (Try.prog.info? 5).map (fun i => (i.zero, i.size, i.bytes)) = some (some (.int .u8 0), 1, 1) := by kernel_rfl
def mrev (s : ByteArray) (k : Nat) : List UInt8 := ((bts s).drop k).reverse
theorem mrev_len (s : ByteArray) (k : Nat) : (mrev s k).length ≤ s.size := by simp [mrev, bts_length]
theorem mrev_step {s : ByteArray} {k : Nat} {c : UInt8} (h : (bts s)[k]? = some c) : bv (mrev s k) = bv (mrev s (k + 1)) ++ [.int .u8 (c.toNat : Int)] := by
  unfold mrev; rw [drop_rev_step h, bv_append]; rfl
theorem mrev_all (s : ByteArray) : mrev s s.size = [] := by unfold mrev; rw [List.drop_of_length_le (by rw [bts_length]; exact Nat.le_refl _)]; rfl
set_option maxRecDepth 10000 in
set_option maxHeartbeats 400000 in
theorem sMirrorWord (s : ByteArray) (w : World) (hs : s.size ≤ 1048576) :
    Calls Try.prog 52 #[.string s] w fun e w' => e = .returned (.string (mirror s)) ∧ Below w.heap.size w w' := by
  go_enter Try.func52, Try.ntmps52
  go_wp2
  go_loopw [3, 4] (fun v i wr => ∃ k : Nat, k ≤ s.size ∧ i = .int .i64 ((k : Int) - 1) ∧ Own 5 w.heap.size wr v (bv (mrev s k)) ∧ Below w.heap.size w wr) (fun _ i _ => (intOf i + 1).toNat)
  case atStart => exact ⟨s.size, Nat.le_refl _, rfl, by rw [mrev_all]; exact Own.empty _ _, (Below.refl _ _).alloc (Nat.le_refl _) _⟩
  case round =>
    obtain ⟨k, hk, rfl, hown, hb⟩ := hrel
    cases k with
    | zero =>
      have hcv := fun dst hd => run_str_own (P := Try.prog) wr 45 5 Try.underlying45 Try.underlying5 hown dst hd
      go_wp2
      go_ret
      exact ⟨rfl, hb⟩
    | succ j =>
      have hlt : j < s.size := by omega
      have hi : ((j + 1 : Nat) : Int) - 1 = j := by omega
      obtain ⟨c, hc, HC, hcb⟩ := byte_at hlt
      have hm := mrev_len s (j + 1)
      have hsz := hb.size
      go_wp2_with (at_builtin; refine app1 45 5 1 (.int .u8 0) Try.underlying45 Try.infoByte rfl hown (.int .u8 (c.toNat : Int)) rfl ?h1 ?h2 ?h3 rfl _ _ rfl rfl rfl (by simp) ?_)
      case h1 => rw [bv_length]; unfold maxLen; omega
      case h2 => rw [bv_length]; omega
      case h3 => exact hsz
      intro v' w1 hown1 hg _
      go_wp2
      go_roundw
      case rel => exact ⟨j, by omega, rfl, by rw [mrev_step HC.out]; exact hown1, hb.trans (hown.below hg (Nat.le_refl _) hsz)⟩
      case measure => simp [intOf]
set_option maxRecDepth 10000 in
set_option maxHeartbeats 400000 in
theorem revBytes (g n cap : Nat) (f : Nat → UInt8) (w : World) (hn : n ≤ 1048576) (hr : ∀ i, i < n → w.cell? ⟨g, i, none⟩ = some (.int .u8 ((f i).toNat : Int))) (hf : ∀ i, i < n → w.frozen? ⟨g, i, none⟩ = false) :
    Calls Try.prog 85 #[.slice (some ⟨g, 0, none⟩) n cap] w fun e w' => e = .returned (.tuple #[]) ∧ (∀ i, i < n → w'.cell? ⟨g, i, none⟩ = some (.int .u8 ((f (n - 1 - i)).toNat : Int))) ∧ Below g w w' := by
  have HR := Lib.hid hr; clear hr
  have HF := Lib.hid hf; clear hf
  go_enter Try.func85, Try.ntmps85
  go_wp2
  go_loopw [2, 3] (fun a b wr => ∃ i : Nat, i ≤ n ∧ a = .int .i64 i ∧ b = .int .i64 ((n : Int) - 1 - i) ∧ Hid (∀ k, k < n → wr.cell? ⟨g, k, none⟩ = some (.int .u8 (((if k < i ∨ n - 1 - i < k then f (n - 1 - k) else f k)).toNat : Int))) ∧ Hid (∀ k, k < n → wr.frozen? ⟨g, k, none⟩ = false) ∧ Below g w wr) (fun i _ _ => n - (intOf i).toNat)
  case atStart => exact ⟨0, Nat.zero_le _, rfl, by go_num, Lib.hid (fun k hk => by rw [if_neg (by omega)]; exact HR.out k hk), HF, Below.refl _ _⟩
  case round =>
    obtain ⟨i, hi, rfl, rfl, HC, HF', hb⟩ := hrel
    by_cases hlt : (i : Int) < (n : Int) - 1 - i
    · obtain ⟨j, hj⟩ : ∃ j : Nat, (n : Int) - 1 - i = j := ⟨n - 1 - i, by omega⟩
      have hx := HC.out i (by omega)
      have hy := HC.out j (by omega)
      have hfi := HF'.out i (by omega)
      have hfj := HF'.out j (by omega)
      have hij : i < j := by omega
      have hjn : j < n := by omega
      have HJ := Lib.hid hj
      go_wp2
      go_region
      go_wp2
      go_roundw
      case rel =>
        refine ⟨i + 1, by omega, by go_num, by have := HJ.out; congr 1; omega, Lib.hid (fun k hk => ?_), Lib.hid (fun k hk => ?_), ((hb.setCell (Nat.le_refl _) _).setCell (Nat.le_refl _) _).drew⟩
        · rw [World.cell?_drew, cell_set2 hx hy]
          have e2 : n - 1 - i = j := by have := HJ.out; omega
          by_cases k1 : k = j
          · subst k1; rw [if_pos rfl, if_pos (by omega), show n - 1 - k = i by omega]
          · rw [if_neg k1]
            by_cases k2 : k = i
            · subst k2; rw [if_pos rfl, if_pos (by omega), e2]
            · rw [if_neg k2, HC.out k hk]
              by_cases k3 : k < i ∨ n - 1 - i < k
              · rw [if_pos k3, if_pos (by omega)]
              · rw [if_neg k3, if_neg (by omega)]
        · simp only [World.frozen?_drew, World.frozen?_setCell]; exact HF'.out k hk
      case measure => simp [intOf]; omega
    · go_wp2
      go_end0
      refine ⟨rfl, fun k hk => ?_, hb⟩
      rw [HC.out k hk]
      by_cases k3 : k < i ∨ n - 1 - i < k
      · rw [if_pos k3]
      · rw [if_neg k3, show n - 1 - k = k by omega]
set_option maxRecDepth 10000 in
set_option maxHeartbeats 400000 in
theorem iMirrorWord (s : ByteArray) (w : World) (hs : s.size ≤ 1048576) :
    Calls Try.prog 51 #[.string s] w fun e w' => e = .returned (.string (mirror s)) ∧ Below w.heap.size w w' := by
  have hcv := fun w => run_bytes_of_string (P := Try.prog) w 9 45 5 s Try.underlying9 Try.underlying45 Try.underlying5
  go_enter Try.func51, Try.ntmps51
  go_wp2_with fail
  have hlen := bytesRow_size s (grownCap w s.size 0 5)
  refine (revBytes w.heap.size s.size _ (fun i => (bts s).getD i 0) _ hs (fun i hi => ?_) (fun i hi => ?_)).mono ?_
  · rw [World.cell?_drew, World.cell?_alloc_mark, bytesRow_get (bts_get hi), getD_of (bts_get hi)]
  · rw [World.frozen?_drew, frozen_mark _ _ _ _ (by omega)]
  rintro e w1 ⟨rfl, hc, hb⟩
  have hcv2 := run_str_cells (P := Try.prog) w1 45 5 Try.underlying45 Try.underlying5 w.heap.size 0 (grownCap w s.size 0 5) (bts s).reverse s.size (by simp [bts_length]) (fun i c hi => by
    rw [Nat.zero_add]
    have hi' : i < s.size := by have := (List.getElem?_eq_some_iff.1 hi).1; simpa [bts_length] using this
    rw [hc i hi']
    rw [List.getElem?_reverse (by rw [bts_length]; exact hi'), bts_length] at hi
    simp [List.getD, hi])
  go_wp2
  go_ret
  exact ⟨rfl, (((Below.refl _ _).drew).alloc (Nat.le_refl _) _).trans hb⟩

end Go.Proofs.Ytidfnhoeaofgeaa
