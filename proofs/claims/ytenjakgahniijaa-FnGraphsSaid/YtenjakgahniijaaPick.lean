/- Contracts of TrimGraph, the program's and the reference's. No statement is proved here. -/
import Derived.Test.YtenjakgahniijaaLivOf
import Derived.Test.YtenjakgahniijaaMatF
import Derived.Test.YtenjakgahniijaaStepApp
namespace Go.Proofs.Ytenjakgahniijaa
open Go.RowKit Go.Deep
def pickF (m : List (List Int)) (l : List Int) : Nat → Nat → Int := fun a b => ent m (l.getD a 0).toNat (l.getD b 0).toNat
def pickM (m : List (List Int)) (l : List Int) : List (List Int) := tabF l.length l.length (pickF m l)
theorem pickM_of {m : List (List Int)} {l : List Int} {n : Nat} (h : l.length = n) : pickM m l = tabF n n (pickF m l) := by subst h; rfl
theorem pickF_at {m : List (List Int)} {l : List Int} {a b x y : Nat} {r : List Int} {z : Int} (ha : l[a]? = some (x : Int)) (hb : l[b]? = some (y : Int)) (hr : m[x]? = some r) (hz : r[y]? = some z) : pickF m l a b = z := by
  unfold pickF
  rw [getD_of_get ha, getD_of_get hb, Int.toNat_natCast, Int.toNat_natCast, ent_of hr hz]
def Inn (n : Nat) (l : List Int) : Prop := l.length ≤ n ∧ ∀ x ∈ l, 0 ≤ x ∧ x < n
theorem lvTo_bd (L : Nat → Bool) : ∀ k, ∀ x ∈ lvTo L k, 0 ≤ x ∧ x < k := by
  intro k
  induction k with
  | zero => intro x hx; simp [lvTo] at hx
  | succ k ih =>
    intro x hx
    rw [lvTo, List.mem_append] at hx
    rcases hx with hx | hx
    · have := ih x hx; omega
    · split at hx
      · rw [List.mem_singleton] at hx; omega
      · cases hx
theorem livelyOf_inn (m : List (List Int)) : Inn m.length (livelyOf m) := by
  cases h : isMat m
  · rw [livelyOf_no h]; exact ⟨Nat.zero_le _, fun x hx => by cases hx⟩
  · rw [livelyOf_yes h rfl]; exact ⟨lvTo_len _ _, lvTo_bd _ _⟩
theorem livelyOf_mat {m : List (List Int)} {n : Nat} (h : (livelyOf m).length = n) (hn : 0 < n) : isMat m = true := by
  cases hm : isMat m
  · rw [livelyOf_no hm] at h; simp at h; omega
  · rfl
def trimB (m : List (List Int)) : Bool := decide (0 < (livelyOf m).length)
def trimM (m : List (List Int)) : List (List Int) := if trimB m = true then pickM m (livelyOf m) else []
theorem trimB_no {m : List (List Int)} (h : (livelyOf m).length = 0) : trimB m = false := by unfold trimB; rw [h]; rfl
theorem trimB_yes {m : List (List Int)} {n : Nat} (h : (livelyOf m).length = n) (hn : 0 < n) : trimB m = true := by unfold trimB; rw [h]; exact decide_eq_true hn
theorem trimM_no {m : List (List Int)} (h : trimB m = false) : trimM m = [] := by unfold trimM; rw [if_neg (by simp [h])]
theorem trimM_yes {m : List (List Int)} (h : trimB m = true) : trimM m = pickM m (livelyOf m) := by unfold trimM; rw [if_pos h]
theorem trimM_size (m : List (List Int)) : (trimM m).length + total (trimM m) ≤ 4000000 := by
  cases h : trimB m
  · rw [trimM_no h]; decide
  · rw [trimM_yes h]
    have := livelyOf_len m
    exact tabF_small _ _ _ (by omega) (by omega)
theorem inn_get {n a : Nat} {l : List Int} (h : Inn n l) {x : Int} (ha : l[a]? = some x) : ∃ k : Nat, x = k ∧ k < n := by
  have := h.2 x (List.mem_of_getElem? ha)
  exact ⟨x.toNat, by omega, by omega⟩
set_option maxRecDepth 10000 in
set_option maxHeartbeats 400000 in
theorem ipicked (v u : Value) (m : List (List Int)) (l : List Int) (w : World) (h : Mat w v m) (g : Ints w u l) (hm : isMat m = true) (hi : Inn m.length l) :
    Calls Try.prog 52 #[v, u] w fun e w' => ∃ v', e = .returned v' ∧ OwnMat 28 3 w.heap.size w' v' (pickM m l) ∧ Below w.heap.size w w' := by
  obtain ⟨a, n, cap, rfl, HL, hn, HC⟩ := h.open
  obtain ⟨al, nl, cl, rfl, HLl, hnl, HCl⟩ := g.open
  clear h g
  have n9 : n ≤ 9 := by have := (isMat_len hm).2; have := HL.out; omega
  have l9 : nl ≤ 9 := by have := hi.1; have := HL.out; have := HLl.out; omega
  have HP := Lib.hid (pickM_of (m := m) HLl.out)
  rw [HL.out] at hi
  have HN := Lib.hid hi; clear hi
  have HI := Lib.hid hm; clear hm
  go_enter Try.func52, Try.ntmps52
  go_wp2
  go_loopw [5, 14] (fun v i wr => ∃ j : Nat, j ≤ nl ∧ i = .int .i64 j ∧ OwnMat 28 3 w.heap.size wr v (tabF j nl (pickF m l)) ∧ Below w.heap.size w wr) (fun _ i _ => nl - (intOf i).toNat)
  case atStart => exact ⟨0, Nat.zero_le _, rfl, OwnMat.empty _ _ _, below_alloc _ _⟩
  case round =>
    obtain ⟨j, hj, rfl, ho, hb⟩ := hrel
    obtain ⟨wo, rfl⟩ : ∃ wo : World, wo = wr := ⟨_, rfl⟩
    by_cases hlt : j < nl
    · have hH := ho.toH
      have hs := hb.size
      obtain ⟨bl, ol, x, rfl, hcl, HXl⟩ := HCl.out j hlt
      obtain ⟨p, rfl, hp⟩ := inn_get HN.out HXl.out
      obtain ⟨b, off, u, r, rfl, hc, HX, hu⟩ := HC.out p hp
      obtain ⟨a', n', cap', rfl, HL', hn', HC'⟩ := hu.open
      have hnn : n' = n := by have := isMat_row HI.out HX.out; have := HL.out; have := HL'.out; omega
      subst hnn
      clear hu
      have hcl0 := cell_keep hb hcl
      go_wp2
      go_loopw [8, 21] (fun q i wq => ∃ k : Nat, k ≤ nl ∧ i = .int .i64 k ∧ Own 3 wo.heap.size wq q (ints (rowF k (pickF m l j))) ∧ Below wo.heap.size wo wq) (fun _ i _ => nl - (intOf i).toNat)
      case atStart => exact ⟨0, Nat.zero_le _, rfl, Own.empty _ _, below_alloc _ _⟩
      case round =>
        clear hcl0
        obtain ⟨k, hk, rfl, hq, hbq⟩ := hrel
        by_cases hlt' : k < nl
        · obtain ⟨bl2, ol2, y, hab, hcl2, HXl2⟩ := HCl.out k hlt'
          cases hab
          obtain ⟨q, rfl, hq2⟩ := inn_get HN.out HXl2.out
          obtain ⟨b', off', z, rfl, hc', HX'⟩ := HC'.out q hq2
          have hbb := hb.trans (hbq.mono hs)
          have hc1 := cell_keep hbb hc
          have hc1' := cell_keep hbb hc'
          have hcl1 := cell_keep hbb hcl2
          have hsq := hbq.size
          have HLq := Lib.hid (rowF_length k (pickF m l j))
          have HZ := Lib.hid (pickF_at HXl.out HXl2.out HX.out HX'.out)
          go_wp2_with (at_builtin; refine app1 28 3 8 (.int .i64 0) Try.underlying28 Try.infoInt rfl hq (.int .i64 z) rfl ?h1 ?h2 hsq rfl _ _ rfl rfl rfl (by simp) ?_)
          case h1 => rw [ints_length, HLq.out]; unfold maxLen; omega
          case h2 => rw [ints_length, HLq.out]; omega
          intro q' w1 hq1 hg _
          go_wp2
          go_roundw
          case rel => exact ⟨k + 1, by omega, by go_num, by rw [rowF_succ]; simp only [ints, List.map_append] at hq1 ⊢; rw [HZ.out]; exact hq1, hbq.trans (hq.below hg (Nat.le_refl _) hsq)⟩
          case measure => simp [intOf]; omega
        · have e : k = nl := by omega
          subst e
          obtain ⟨aq, nq, cq, rfl⟩ := hq.formI
          have hHq := hH.keep hbq
          have hsq := hbq.size
          have HL2 := Lib.hid (tabF_length j k (pickF m l))
          go_wp2_with (at_builtin; refine appM 24 28 3 Try.underlying24 Try.infoInts (by decide) hHq hq hs hsq (by rw [HL2.out]; omega) rfl _ _ rfl rfl rfl (by simp) ?_)
          intro v' w1 ho1 hg _
          go_wp2
          go_roundw
          case rel => exact ⟨j + 1, by omega, by go_num, by rw [tabF_succ]; exact ho1, (hb.trans (hbq.mono hs)).trans (grow_below hg (fun k hk => (ho.own k hk).1) (Nat.le_refl _) (by omega))⟩
          case measure => simp [intOf]; omega
    · have e : j = nl := by omega
      subst e
      go_wp2
      go_ret
      exact ⟨_, rfl, by rw [HP.out]; exact ho, hb⟩
set_option maxRecDepth 10000 in
set_option maxHeartbeats 400000 in
theorem spicked (v u : Value) (m : List (List Int)) (l : List Int) (w : World) (h : Mat w v m) (g : Ints w u l) (hm : isMat m = true) (hi : Inn m.length l) :
    Calls Try.prog 53 #[v, u] w fun e w' => ∃ v', e = .returned v' ∧ OwnMat 28 3 w.heap.size w' v' (pickM m l) ∧ Below w.heap.size w w' := by
  obtain ⟨a, n, cap, rfl, HL, hn, HC⟩ := h.open
  obtain ⟨al, nl, cl, rfl, HLl, hnl, HCl⟩ := g.open
  clear h g
  have n9 : n ≤ 9 := by have := (isMat_len hm).2; have := HL.out; omega
  have l9 : nl ≤ 9 := by have := hi.1; have := HL.out; have := HLl.out; omega
  have HP := Lib.hid (pickM_of (m := m) HLl.out)
  rw [HL.out] at hi
  have HN := Lib.hid hi; clear hi
  have HI := Lib.hid hm; clear hm
  go_enter Try.func53, Try.ntmps53
  go_wp2
  go_loopw [5, 6] (fun v i wr => ∃ j : Nat, j ≤ nl ∧ i = .int .i64 j ∧ OwnMat 28 3 w.heap.size wr v (tabF j nl (pickF m l)) ∧ Below w.heap.size w wr) (fun _ i _ => nl - (intOf i).toNat)
  case atStart => exact ⟨0, Nat.zero_le _, rfl, OwnMat.empty _ _ _, below_alloc _ _⟩
  case round =>
    obtain ⟨j, hj, rfl, ho, hb⟩ := hrel
    obtain ⟨wo, rfl⟩ : ∃ wo : World, wo = wr := ⟨_, rfl⟩
    by_cases hlt : j < nl
    · have hH := ho.toH
      have hs := hb.size
      obtain ⟨bl, ol, x, rfl, hcl, HXl⟩ := HCl.out j hlt
      obtain ⟨p, rfl, hp⟩ := inn_get HN.out HXl.out
      obtain ⟨b, off, u, r, rfl, hc, HX, hu⟩ := HC.out p hp
      obtain ⟨a', n', cap', rfl, HL', hn', HC'⟩ := hu.open
      have hnn : n' = n := by have := isMat_row HI.out HX.out; have := HL.out; have := HL'.out; omega
      subst hnn
      clear hu
      go_wp2
      go_loopw [7, 8] (fun q i wq => ∃ k : Nat, k ≤ nl ∧ i = .int .i64 k ∧ Own 3 wo.heap.size wq q (ints (rowF k (pickF m l j))) ∧ Below wo.heap.size wo wq) (fun _ i _ => nl - (intOf i).toNat)
      case atStart => exact ⟨0, Nat.zero_le _, rfl, Own.empty _ _, below_alloc _ _⟩
      case round =>
        obtain ⟨k, hk, rfl, hq, hbq⟩ := hrel
        by_cases hlt' : k < nl
        · obtain ⟨bl2, ol2, y, hab, hcl2, HXl2⟩ := HCl.out k hlt'
          cases hab
          obtain ⟨q, rfl, hq2⟩ := inn_get HN.out HXl2.out
          obtain ⟨b', off', z, rfl, hc', HX'⟩ := HC'.out q hq2
          have hbb := hb.trans (hbq.mono hs)
          have hc1 := cell_keep hbb hc
          have hc1' := cell_keep hbb hc'
          have hcl1 := cell_keep hbb hcl2
          have hcl3 := cell_keep hbb hcl
          have hsq := hbq.size
          have HLq := Lib.hid (rowF_length k (pickF m l j))
          have HZ := Lib.hid (pickF_at HXl.out HXl2.out HX.out HX'.out)
          have hw1 := below_alloc wr (.cells #[.int .i64 z] 3)
          have hqA := (hq.keep hw1).keep (Below.refl _ _).drew
          have hcN : (wr.alloc (.cells #[.int .i64 z] 3)).drew.cell? ⟨wr.heap.size, 0, none⟩ = some (.int .i64 z) := by simp
          have hh1 : (ints (rowF k (pickF m l j))).length + 1 ≤ maxLen := by rw [ints_length, HLq.out]; unfold maxLen; omega
          have hh2 : ((ints (rowF k (pickF m l j))).length + 1) * 8 ≤ 140737488355328 := by rw [ints_length, HLq.out]; omega
          have hh3 : wo.heap.size ≤ (wr.alloc (.cells #[.int .i64 z] 3)).drew.heap.size := by simp; omega
          have hdA : Below wr.heap.size wr (wr.alloc (.cells #[.int .i64 z] 3)).drew := hw1.trans (Below.refl _ _).drew
          have hh4 : w.heap.size ≤ (wr.alloc (.cells #[.int .i64 z] 3)).drew.heap.size := by omega
          go_wp2
          go_region_held3 (fun w' => w'.cell? ⟨bl, ol + k, none⟩ = some (.int .i64 (q : Nat)) ∧ w'.cell? ⟨bl, ol + j, none⟩ = some (.int .i64 (p : Nat)) ∧ w'.cell? ⟨b, off + p, none⟩ = some (.slice (some ⟨b', off', none⟩) n' cap') ∧ w'.cell? ⟨b', off' + q, none⟩ = some (.int .i64 z))
            (first | go_keep | exact ⟨cell_keep hgb hcl2, cell_keep hgb hcl, cell_keep hgb hc, cell_keep hgb hc'⟩)
            ((refine app1s 28 3 8 (.int .i64 0) Try.underlying28 Try.infoInt rfl hqA (.int .i64 z) rfl hh1 hh2 hh3 (by rfl) _ _ (by rfl) (by rfl) (by rfl) hcN ?_; intro q' w1 hq1 hg hsz1; have hgb : Below w.heap.size w w1 := (hbb.trans (hdA.mono hbb.size)).trans (hqA.below hg hs hh4)))
          go_wp2
          go_roundw
          case rel => exact ⟨k + 1, by omega, by go_num, by rw [rowF_succ]; simp only [ints, List.map_append] at hq1 ⊢; rw [HZ.out]; exact hq1, (hbq.trans (hdA.mono hsq)).trans (hqA.below hg (Nat.le_refl _) hh3)⟩
          case measure => simp [intOf]; omega
        · have e : k = nl := by omega
          subst e
          obtain ⟨aq, nq, cq, rfl⟩ := hq.formI
          have hHq := hH.keep hbq
          have hsq := hbq.size
          have HL2 := Lib.hid (tabF_length j k (pickF m l))
          go_wp2_with (at_builtin; refine appM 24 28 3 Try.underlying24 Try.infoInts (by decide) hHq hq hs hsq (by rw [HL2.out]; omega) rfl _ _ rfl rfl rfl (by simp) ?_)
          intro v' w1 ho1 hg _
          go_wp2
          go_roundw
          case rel => exact ⟨j + 1, by omega, by go_num, by rw [tabF_succ]; exact ho1, (hb.trans (hbq.mono hs)).trans (grow_below hg (fun k hk => (ho.own k hk).1) (Nat.le_refl _) (by omega))⟩
          case measure => simp [intOf]; omega
    · have e : j = nl := by omega
      subst e
      go_wp2
      go_ret
      exact ⟨_, rfl, by rw [HP.out]; exact ho, hb⟩
set_option maxRecDepth 10000 in
set_option maxHeartbeats 400000 in
theorem iTrimGraph (v : Value) (m : List (List Int)) (w : World) (h : Mat w v m) :
    Calls Try.prog 10 #[v] w fun e w' => ∃ v', e = .returned (.tuple #[v', .bool (trimB m)]) ∧ OwnMat 28 3 w.heap.size w' v' (trimM m) ∧ Below w.heap.size w w' := by
  have HI := Lib.hid (livelyOf_inn m)
  obtain ⟨k, hk⟩ : ∃ k, (livelyOf m).length = k := ⟨_, rfl⟩
  have k9 := livelyOf_len m
  rw [hk] at k9
  have HK := Lib.hid hk; clear hk
  go_enter Try.func10, Try.ntmps10
  go_wp2_with fail
  refine (iLivelyOf _ m _ h).mono ?_
  rintro e w1 ⟨v1, rfl, ho, hb⟩
  obtain ⟨av, cv, rfl⟩ := ho.form (show (ints (livelyOf m)).length = k by rw [ints_length]; exact HK.out)
  by_cases h0 : k = 0
  · have HO := Lib.hid (trimB_no (by rw [HK.out]; exact h0))
    go_wp2
    go_ret2
    exact ⟨_, ret2 rfl (val_bool HO.out.symm), by rw [trimM_no HO.out]; exact OwnMat.nil _ _ _ _, hb⟩
  · have HO := Lib.hid (trimB_yes HK.out (by omega))
    go_wp2_with (go_at_call 52; refine (ipicked _ _ m (livelyOf m) _ (h.keep hb) ho.toInts (livelyOf_mat HK.out (by omega)) HI.out).mono ?_; rintro e w2 ⟨v2, rfl, ho2, hb2⟩)
    go_ret2
    exact ⟨_, ret2 rfl (val_bool HO.out.symm), by rw [trimM_yes HO.out]; exact ho2.mono hb.size, hb.trans (hb2.mono hb.size)⟩
set_option maxRecDepth 10000 in
set_option maxHeartbeats 400000 in
theorem sTrimGraph (v : Value) (m : List (List Int)) (w : World) (h : Mat w v m) :
    Calls Try.prog 11 #[v] w fun e w' => ∃ v', e = .returned (.tuple #[v', .bool (trimB m)]) ∧ OwnMat 28 3 w.heap.size w' v' (trimM m) ∧ Below w.heap.size w w' := by
  have HI := Lib.hid (livelyOf_inn m)
  obtain ⟨k, hk⟩ : ∃ k, (livelyOf m).length = k := ⟨_, rfl⟩
  have k9 := livelyOf_len m
  rw [hk] at k9
  have HK := Lib.hid hk; clear hk
  go_enter Try.func11, Try.ntmps11
  go_wp2_with fail
  refine (sLivelyOf _ m _ h).mono ?_
  rintro e w1 ⟨v1, rfl, ho, hb⟩
  obtain ⟨av, cv, rfl⟩ := ho.form (show (ints (livelyOf m)).length = k by rw [ints_length]; exact HK.out)
  by_cases h0 : k = 0
  · have HO := Lib.hid (trimB_no (by rw [HK.out]; exact h0))
    go_wp2
    go_ret2
    exact ⟨_, ret2 rfl (val_bool HO.out.symm), by rw [trimM_no HO.out]; exact (OwnMat.empty _ _ _).mono hb.size, hb.alloc hb.size _⟩
  · have HO := Lib.hid (trimB_yes HK.out (by omega))
    go_wp2_with (go_at_call 53; refine (spicked _ _ m (livelyOf m) _ (h.keep hb) ho.toInts (livelyOf_mat HK.out (by omega)) HI.out).mono ?_; rintro e w2 ⟨v2, rfl, ho2, hb2⟩)
    go_ret2
    exact ⟨_, ret2 rfl (val_bool HO.out.symm), by rw [trimM_yes HO.out]; exact ho2.mono hb.size, hb.trans (hb2.mono hb.size)⟩
end Go.Proofs.Ytenjakgahniijaa
