/- LivelyOf and IsLively. No statement is proved here. -/
import Derived.Test.YtenjakgahniijaaLively
namespace Go.Proofs.Ytenjakgahniijaa
open Go.RowKit Go.Deep
theorem beq_cast (a b : Nat) : ((a : Int) == (b : Int)) = decide (a = b) := by
  by_cases h : a = b
  · subst h; simp
  · have h2 : ¬ (a : Int) = (b : Int) := by omega
    rw [decide_eq_false h]
    exact beq_eq_false_iff_ne.2 h2
def isLively (m : List (List Int)) : Bool := isMat m && decide ((livelyOf m).length = m.length)
theorem nxTo_rows {e : Nat → Nat → Bool} {n i : Nat} {r : List Int} (h : (nxTo e n n)[i]? = some r) (hn : n ≤ 1000) : r.length ≤ 4000000 ∧ ∀ x ∈ r, 0 ≤ x ∧ x < n := by
  have hi := (List.getElem?_eq_some_iff.1 h).1
  rw [nxTo_length] at hi
  have h2 : (nxTo e n n)[i]? = some (lvTo (e i) n) := by simp [nxTo, hi]
  rw [h2] at h
  cases h
  refine ⟨by have := lvTo_len (e i) n; omega, ?_⟩
  have key : ∀ (L : Nat → Bool) (k : Nat), ∀ x ∈ lvTo L k, 0 ≤ x ∧ x < k := by
    intro L k
    induction k with
    | zero => intro x hx; simp [lvTo] at hx
    | succ k ih =>
      intro x hx
      rw [lvTo, List.mem_append] at hx
      rcases hx with hx | hx
      · have := ih x hx; omega
      · split at hx
        · rw [List.mem_singleton] at hx; omega
        · cases hx
  exact key _ _
set_option maxRecDepth 10000 in
set_option maxHeartbeats 400000 in
theorem iLivelyOf (v : Value) (m : List (List Int)) (w : World) (h : Mat w v m) :
    Calls Try.prog 12 #[v] w fun e w' => ∃ v', e = .returned v' ∧ Own 3 w.heap.size w' v' (ints (livelyOf m)) ∧ Below w.heap.size w w' := by
  cases hm : isMat m
  · have HI := Lib.hid hm; clear hm
    go_enter Try.func12, Try.ntmps12
    go_wp2_with (go_at_call 54; refine (iIsMatrix _ m _ h).mono ?_; rintro e w2 ⟨rfl, rfl⟩; rw [HI.out])
    go_ret
    exact ⟨_, rfl, by rw [livelyOf_no HI.out]; exact Own.nil _ _ _, Below.refl _ _⟩
  obtain ⟨n, hn⟩ : ∃ n, m.length = n := ⟨_, rfl⟩
  have n9 : n ≤ 9 := by have := (isMat_len hm).2; omega
  have HC := Lib.hid (livelyOf_yes hm hn)
  have HI := Lib.hid hm; clear hm
  have HN := Lib.hid hn; clear hn
  have hwa := below_alloc w (.cells #[] 3)
  have HLV := Lib.hid (lv_nxTo (nz m) n)
  go_enter Try.func12, Try.ntmps12
  go_wp2_with (first | (go_at_call 54; refine (iIsMatrix _ m _ h).mono ?_; rintro e w2 ⟨rfl, rfl⟩; rw [HI.out]) | (go_at_call 56; refine (inextOf _ m _ (h.keep hwa) HI.out n HN.out).mono ?_; rintro e w1 ⟨v1, rfl, hnx, hb1⟩) | (go_at_call 55; refine (ilively _ _ _ hnx.mat n (nxTo_length _ _ _) (by omega) (fun _ _ hr => nxTo_rows hr (by omega))).mono ?_; rintro e w2 ⟨v2, rfl, hse, hb2⟩; obtain ⟨av, cv, hv⟩ := hse.form rfl; rw [bls_length] at hv; subst hv))
  have hs0 : w.heap.size + 1 ≤ w1.heap.size := by have := hb1.size; simpa using this
  have hb12 : Below (w.heap.size + 1) w1 w2 := hb2.mono hs0
  have hb := (hwa.trans (hb1.mono (by simp))).trans (hb12.mono (by omega))
  have how := ((Own.empty 3 w).keep hb1).keep (hb2.mono (Nat.le_refl _))
  have hs1 := hb.size
  rw [HLV.out] at hse
  go_wp2
  go_loopw [3, 14] (fun v i wr => ∃ k : Nat, k ≤ n ∧ i = .int .i64 k ∧ Own 3 w.heap.size wr v (ints (lvTo (lv (nz m) n) k)) ∧ Own 4 w1.heap.size wr (.slice av n cv) (bls n (lv (nz m) n)) ∧ Below w.heap.size w wr) (fun _ i _ => n - (intOf i).toNat)
  case atStart => exact ⟨0, Nat.zero_le _, rfl, how, hse, hb⟩
  case round =>
    clear how hse hb
    obtain ⟨i, hi, rfl, ho, hse, hb⟩ := hrel
    by_cases hlt : i < n
    · obtain ⟨gs, cs, hv, -, hgs1, hfr, -⟩ := hse.at (bls_get (g := lv (nz m) n) hlt)
      rw [bls_length] at hv
      obtain ⟨rfl, -⟩ := slice_inj1 hv
      clear hv
      have HLN := Lib.hid (lvTo_len (lv (nz m) n) i)
      have hs := hb.size
      have HS : Hid (lvTo (lv (nz m) n) (i + 1) = lvTo (lv (nz m) n) i ++ (if lv (nz m) n i = true then [(i : Int)] else [])) := Lib.hid rfl
      obtain ⟨l, hl⟩ : ∃ l, lv (nz m) n i = l := ⟨_, rfl⟩
      rw [hl] at hgs1 HS
      clear hl
      cases l
      · go_wp2
        go_roundw
        case rel => exact ⟨i + 1, by omega, by go_num, by rw [HS.out]; simpa using ho, hse, hb⟩
        case measure => simp [intOf]; omega
      · have hne := (Own.other hse ho (by decide))
        go_wp2_with (at_builtin; refine app1 28 3 8 (.int .i64 0) Try.underlying28 Try.infoInt rfl ho (.int .i64 i) rfl ?h1 ?h2 hs rfl _ _ rfl rfl rfl (by simp) ?_)
        case h1 => rw [ints_length]; have := HLN.out; unfold maxLen; omega
        case h2 => rw [ints_length]; have := HLN.out; omega
        intro q' w3 hq3 hg _
        have hse3 := hse.grown hg hne
        go_wp2
        go_roundw
        case rel => exact ⟨i + 1, by omega, by go_num, by rw [HS.out]; simp only [ints, List.map_append] at hq3 ⊢; exact hq3, hse3, hb.trans (ho.below hg (Nat.le_refl _) hs)⟩
        case measure => simp [intOf]; omega
    · have e : n = i := by omega
      subst e
      go_wp2
      go_ret
      exact ⟨_, rfl, by rw [HC.out]; exact ho, hb⟩
set_option maxRecDepth 10000 in
set_option maxHeartbeats 400000 in
theorem iIsLively (v : Value) (m : List (List Int)) (w : World) (h : Mat w v m) :
    Calls Try.prog 25 #[v] w fun e w' => e = .returned (.bool (isLively m)) ∧ Below w.heap.size w w' := by
  obtain ⟨a, n, cap, rfl, HL, hn, -⟩ := h.open
  have HIL : Hid (isLively m = (isMat m && decide ((livelyOf m).length = n))) := Lib.hid (by rw [isLively, HL.out])
  have HLN := Lib.hid (livelyOf_len m)
  cases hm : isMat m
  · have HI := Lib.hid hm; clear hm
    go_enter Try.func25, Try.ntmps25
    go_wp2_with (go_at_call 54; refine (iIsMatrix _ m _ h).mono ?_; rintro e w2 ⟨rfl, rfl⟩; rw [HI.out])
    go_ret
    exact ⟨ret_bool (by rw [HIL.out, HI.out]; rfl), Below.refl _ _⟩
  · have HI := Lib.hid hm; clear hm
    go_enter Try.func25, Try.ntmps25
    go_wp2_with (first | (go_at_call 54; refine (iIsMatrix _ m _ h).mono ?_; rintro e w2 ⟨rfl, rfl⟩; rw [HI.out]) | (go_at_call 12; refine (iLivelyOf _ m _ h).mono ?_; rintro e w1 ⟨v1, rfl, ho, hb⟩; obtain ⟨av, cv, hv⟩ := ho.form rfl; rw [ints_length] at hv; subst hv))
    go_ret
    exact ⟨ret_bool (by rw [HIL.out, HI.out, Bool.true_and]; exact beq_cast _ _), hb⟩
set_option maxRecDepth 10000 in
set_option maxHeartbeats 400000 in
theorem sIsLively (v : Value) (m : List (List Int)) (w : World) (h : Mat w v m) :
    Calls Try.prog 26 #[v] w fun e w' => e = .returned (.bool (isLively m)) ∧ Below w.heap.size w w' := by
  obtain ⟨a, n, cap, rfl, HL, hn, -⟩ := h.open
  have HIL : Hid (isLively m = (isMat m && decide ((livelyOf m).length = n))) := Lib.hid (by rw [isLively, HL.out])
  have HLN := Lib.hid (livelyOf_len m)
  cases hm : isMat m
  · have HI := Lib.hid hm; clear hm
    go_enter Try.func26, Try.ntmps26
    go_wp2_with (go_at_call 28; refine (sIsMatrix _ m _ h).mono ?_; rintro e w2 ⟨rfl, rfl⟩; rw [HI.out])
    go_ret
    exact ⟨ret_bool (by rw [HIL.out, HI.out]; rfl), Below.refl _ _⟩
  · have HI := Lib.hid hm; clear hm
    go_enter Try.func26, Try.ntmps26
    go_wp2_with (first | (go_at_call 28; refine (sIsMatrix _ m _ h).mono ?_; rintro e w2 ⟨rfl, rfl⟩; rw [HI.out]) | (go_at_call 19; refine (sLivelyOf _ m _ h).mono ?_; rintro e w1 ⟨v1, rfl, ho, hb⟩; obtain ⟨av, cv, hv⟩ := ho.form rfl; rw [ints_length] at hv; subst hv))
    go_ret
    exact ⟨ret_bool (by rw [HIL.out, HI.out, Bool.true_and]; exact beq_cast _ _), hb⟩
end Go.Proofs.Ytenjakgahniijaa
