/- The lists of next vertices. No statement is proved here. -/
import Derived.Test.YtenjakgahniijaaLive
namespace Go.Proofs.Ytenjakgahniijaa
open Go.RowKit Go.Deep
def nxTo (e : Nat → Nat → Bool) (n k : Nat) : List (List Int) := (List.range k).map fun i => lvTo (e i) n
theorem nxTo_succ (e : Nat → Nat → Bool) (n k : Nat) : nxTo e n (k + 1) = nxTo e n k ++ [lvTo (e k) n] := by simp [nxTo, List.range_succ]
theorem nxTo_length (e : Nat → Nat → Bool) (n k : Nat) : (nxTo e n k).length = k := by simp [nxTo]
set_option maxRecDepth 10000 in
set_option maxHeartbeats 400000 in
theorem inextOf (v : Value) (m : List (List Int)) (w : World) (h : Mat w v m) (hm : isMat m = true) (n : Nat) (hL : m.length = n) :
    Calls Try.prog 56 #[v] w fun e w' => ∃ v', e = .returned v' ∧ OwnMat 28 3 w.heap.size w' v' (nxTo (nz m) n n) ∧ Below w.heap.size w w' := by
  obtain ⟨a, n', cap, rfl, HL, hn, HC⟩ := h.open
  have hnn : n' = n := by have := HL.out; omega
  subst hnn
  clear h
  have n9 : n' ≤ 9 := by have := (isMat_len hm).2; omega
  have HI := Lib.hid hm; clear hm
  have HLL := Lib.hid hL; clear hL
  go_enter Try.func56, Try.ntmps56
  go_wp2
  go_loopw [3, 12] (fun v i wr => ∃ k : Nat, k ≤ n' ∧ i = .int .i64 k ∧ OwnMat 28 3 w.heap.size wr v (nxTo (nz m) n' k) ∧ Below w.heap.size w wr) (fun _ i _ => n' - (intOf i).toNat)
  case atStart => exact ⟨0, Nat.zero_le _, rfl, OwnMat.empty _ _ _, below_alloc _ _⟩
  case round =>
    obtain ⟨i, hi, rfl, ho, hbl⟩ := hrel
    obtain ⟨wo, rfl⟩ : ∃ wo : World, wo = wr := ⟨_, rfl⟩
    by_cases hlti : i < n'
    · obtain ⟨p, off, u, r, rfl, hc, HX, hu⟩ := HC.out i hlti
      obtain ⟨a', n2, cap', rfl, HL', hn', HC'⟩ := hu.open
      have hnn : n2 = n' := by have := isMat_row HI.out HX.out; have := HL.out; have := HL'.out; omega
      subst hnn
      clear hu
      have hc1 := cell_keep hbl hc
      have hH := ho.toH
      have hs := hbl.size
      go_wp2
      go_loopw [6, 19] (fun q j wq => ∃ j' : Nat, j' ≤ n2 ∧ j = .int .i64 j' ∧ Own 3 wo.heap.size wq q (ints (lvTo (nz m i) j')) ∧ Below wo.heap.size wo wq) (fun _ j _ => n2 - (intOf j).toNat)
      case atStart => exact ⟨0, Nat.zero_le _, rfl, Own.empty _ _, below_alloc _ _⟩
      case round =>
        obtain ⟨j, hj, rfl, hq, hbq⟩ := hrel
        by_cases hltj : j < n2
        · obtain ⟨q1, off1, x, rfl, hc', HX'⟩ := HC'.out j hltj
          have hc1' := cell_keep (hbl.trans (hbq.mono hs)) hc'
          have hsq := hbq.size
          have HLQ := Lib.hid (lvTo_len (nz m i) j)
          have HS : Hid (lvTo (nz m i) (j + 1) = lvTo (nz m i) j ++ (if decide (0 < x) = true then [(j : Int)] else [])) := Lib.hid (by rw [lvTo, nz, ent_of HX.out HX'.out])
          by_cases hx : 0 < x
          · go_wp2_with (at_builtin; refine app1 28 3 8 (.int .i64 0) Try.underlying28 Try.infoInt rfl hq (.int .i64 j) rfl ?h1 ?h2 hsq rfl _ _ rfl rfl rfl (by simp) ?_)
            case h1 => rw [ints_length]; have := HLQ.out; unfold maxLen; omega
            case h2 => rw [ints_length]; have := HLQ.out; omega
            intro q' w3 hq3 hg _
            go_wp2
            go_roundw
            case rel => exact ⟨j + 1, by omega, by go_num, by rw [HS.out, if_pos (by simpa using hx)]; simp only [ints, List.map_append] at hq3 ⊢; exact hq3, hbq.trans (hq.below hg (Nat.le_refl _) hsq)⟩
            case measure => simp [intOf]; omega
          · go_wp2
            go_roundw
            case rel => exact ⟨j + 1, by omega, by go_num, by rw [HS.out, if_neg (by simpa using hx)]; simpa using hq, hbq⟩
            case measure => simp [intOf]; omega
        · have e : n2 = j := by omega
          subst e
          have hHq := hH.keep hbq
          have hsq := hbq.size
          obtain ⟨aq, cq, hqf⟩ := hq.form rfl
          subst hqf
          have HN := Lib.hid (nxTo_length (nz m) n2 i)
          go_wp2_with (at_builtin; refine appM 24 28 3 Try.underlying24 Try.infoInts (by decide) hHq hq hs hsq (by rw [HN.out]; omega) rfl _ _ rfl rfl rfl (by simp) ?_)
          intro q' w3 hq3 hg hsz3
          have hb3 := (hbl.trans (hbq.mono hs)).trans (grow_below hg (fun k hk => (ho.own k hk).1) (Nat.le_refl _) (by omega))
          go_wp2
          go_roundw
          case rel => exact ⟨i + 1, by omega, by go_num, by rw [nxTo_succ]; exact hq3, hb3⟩
          case measure => simp [intOf]; omega
    · have e : n' = i := by omega
      subst e
      go_wp2
      go_ret
      exact ⟨_, rfl, ho, hbl⟩
end Go.Proofs.Ytenjakgahniijaa
