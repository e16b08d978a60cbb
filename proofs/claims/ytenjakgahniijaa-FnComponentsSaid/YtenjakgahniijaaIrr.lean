/- Contracts of IsIrreducible, the program's and the reference's. No statement is proved here. -/
import Derived.Test.YtenjakgahniijaaReachS
namespace Go.Proofs.Ytenjakgahniijaa
open Go.RowKit Go.Deep
def nzI (x : Int) : Bool := !(x == 0)
def noZero (r : List Int) : Bool := r.all nzI
def irr (m : List (List Int)) : Bool := isMat m && (reachM m).all noZero
theorem nzI_no {x : Int} (h : x = 0) : nzI x = false := by subst h; rfl
theorem nzI_yes {x : Int} (h : ¬ x = 0) : nzI x = true := by simp [nzI, h]
theorem noZero_mem {r : List Int} : noZero r = true ↔ ¬ (0 : Int) ∈ r := by
  unfold noZero
  rw [List.all_eq_true]
  constructor
  · intro h h0; exact absurd (h 0 h0) (by decide)
  · intro h x hx; apply nzI_yes; intro e; subst e; exact h hx
theorem reachM_row {m : List (List Int)} {i : Nat} {r : List Int} (h : (reachM m)[i]? = some r) : r.length = (reachM m).length := by
  cases hm : isMat m
  · rw [reachM_no hm] at h; simp at h
  · rw [reachM_yes hm rfl] at h ⊢
    have hi : i < m.length := by have := (List.getElem?_eq_some_iff.1 h).1; rwa [tabF_length] at this
    rw [tabF_get hi] at h
    rw [← Option.some.inj h, rowF_length, tabF_length]
/-- Where a number is in a list, or below 0. -/
def Idx (l : List Int) (x : Int) (e : Ending) : Prop := ∃ r : Int, e = .returned (.int .i64 r) ∧ -1 ≤ r ∧ r ≤ 9223372036854775807 ∧ Hid ((0 ≤ r ∧ x ∈ l) ∨ (r < 0 ∧ ¬ x ∈ l))
theorem not_mem_take {l : List Int} {j : Nat} {x y : Int} (h : l[j]? = some y) (ht : ¬ x ∈ l.take j) (hy : ¬ x = y) : ¬ x ∈ l.take (j + 1) := by
  rw [take_snoc h]; simp; exact ⟨ht, hy⟩
set_option maxRecDepth 10000 in
set_option maxHeartbeats 400000 in
theorem slIndex (v : Value) (l : List Int) (x : Int) (w : World) (h : Ints w v l) :
    Calls Try.prog 86 #[v, .int .i64 x] w fun e w' => Idx l x e ∧ w = w' := by
  obtain ⟨a, n, cap, rfl, HL, hn, HC⟩ := h.open
  clear h
  go_enter Try.func86, Try.ntmps86
  go_wp2
  go_loop [8] (fun i => ∃ j : Nat, j ≤ n ∧ i = .int .i64 j ∧ Hid (¬ x ∈ l.take j)) (fun i => n - (intOf i).toNat)
  case atStart => exact ⟨0, Nat.zero_le _, rfl, Lib.hid (by simp)⟩
  case round =>
    obtain ⟨j, hj, rfl, HT⟩ := hrel
    by_cases hlt : j < n
    · obtain ⟨b, off, y, rfl, hc, HX⟩ := HC.out j hlt
      by_cases hxy : x = y
      · subst hxy
        go_wp2
        go_ret
        exact ⟨⟨_, rfl, by omega, by omega, Lib.hid (.inl ⟨by omega, List.mem_of_getElem? HX.out⟩)⟩, rfl⟩
      · have hne : (x == y) = false := beq_eq_false_iff_ne.2 hxy
        go_wp2
        go_round
        case rel => exact ⟨j + 1, by omega, by go_num, Lib.hid (not_mem_take HX.out HT.out hxy)⟩
        case measure => simp [intOf]; omega
    · go_wp2
      go_ret
      exact ⟨⟨_, rfl, by omega, by omega, Lib.hid (.inr ⟨by omega, by have := HT.out; rwa [List.take_of_length_le (by rw [HL.out]; omega)] at this⟩)⟩, rfl⟩
set_option maxRecDepth 10000 in
set_option maxHeartbeats 400000 in
theorem slContains (v : Value) (l : List Int) (x : Int) (w : World) (h : Ints w v l) :
    Calls Try.prog 72 #[v, .int .i64 x] w fun e w' => e = .returned (.bool (decide (x ∈ l))) ∧ w = w' := by
  go_enter Try.func72, Try.ntmps72
  go_wp2_with fail
  refine (slIndex v l x _ h).mono ?_
  rintro e w' ⟨⟨r, rfl, hr1, hr2, HR⟩, rfl⟩
  go_wp2
  go_ret
  refine ⟨ret_bool ?_, rfl⟩
  rcases HR.out with ⟨h1, h2⟩ | ⟨h1, h2⟩
  · rw [decide_eq_true h2]; simp [h1]
  · rw [decide_eq_false h2]; simp [h1]
set_option maxRecDepth 10000 in
set_option maxHeartbeats 400000 in
theorem iisIrr (v : Value) (m : List (List Int)) (w : World) (h : Mat w v m) (hm : isMat m = true) :
    Calls Try.prog 78 #[v] w fun e w' => e = .returned (.bool ((reachM m).all noZero)) ∧ Below w.heap.size w w' := by
  go_enter Try.func78, Try.ntmps78
  go_wp2_with fail
  refine (ireach v m _ h hm).mono ?_
  rintro e w1 ⟨v1, rfl, ho, hb⟩
  obtain ⟨a, n, cap, rfl, HL, hn, HC⟩ := ho.mat.open
  clear ho
  go_wp2
  go_loop [8] (fun i => ∃ j : Nat, j ≤ n ∧ i = .int .i64 j ∧ Hid (((reachM m).take j).all noZero = true)) (fun i => n - (intOf i).toNat)
  case atStart => exact ⟨0, Nat.zero_le _, rfl, Lib.hid (by simp)⟩
  case round =>
    obtain ⟨j, hj, rfl, HT⟩ := hrel
    by_cases hlt : j < n
    · obtain ⟨b, off, u, r, rfl, hc, HX, hu⟩ := HC.out j hlt
      by_cases h0 : (0 : Int) ∈ r
      · have HD := Lib.hid (decide_eq_true h0)
        have H0 := Lib.hid h0; clear h0
        go_wp2_with (go_at_call 72; refine (slContains u r 0 _ hu).mono ?_; rintro e w2 ⟨rfl, rfl⟩; rw [HD.out])
        go_ret
        exact ⟨ret_bool (all_false HX.out (by cases hz : noZero r; rfl; exact absurd H0.out (noZero_mem.1 hz))).symm, hb⟩
      · have HD := Lib.hid (decide_eq_false h0)
        have H0 := Lib.hid h0; clear h0
        go_wp2_with (go_at_call 72; refine (slContains u r 0 _ hu).mono ?_; rintro e w2 ⟨rfl, rfl⟩; rw [HD.out])
        go_round
        case rel => exact ⟨j + 1, by omega, by go_num, Lib.hid (all_take_succ HX.out HT.out (noZero_mem.2 H0.out))⟩
        case measure => simp [intOf]; omega
    · go_wp2
      go_ret
      exact ⟨ret_bool (all_take_all HL.out hlt HT.out).symm, hb⟩
set_option maxRecDepth 10000 in
set_option maxHeartbeats 400000 in
theorem iIsIrreducible (v : Value) (m : List (List Int)) (w : World) (h : Mat w v m) :
    Calls Try.prog 40 #[v] w fun e w' => e = .returned (.bool (irr m)) ∧ Below w.heap.size w w' := by
  cases hm : isMat m
  · have HI := Lib.hid hm; clear hm
    go_enter Try.func40, Try.ntmps40
    go_wp2_with (go_at_call 54; refine (iIsMatrix _ m _ h).mono ?_; rintro e w2 ⟨rfl, rfl⟩; rw [HI.out])
    go_ret
    exact ⟨ret_bool (by unfold irr; rw [HI.out]; rfl), Below.refl _ _⟩
  · have HI := Lib.hid hm; clear hm
    go_enter Try.func40, Try.ntmps40
    go_wp2_with (first | (go_at_call 54; refine (iIsMatrix _ m _ h).mono ?_; rintro e w2 ⟨rfl, rfl⟩; rw [HI.out]) | (go_at_call 78; refine (iisIrr _ m _ h HI.out).mono ?_; rintro e w2 ⟨rfl, hb⟩))
    go_ret
    exact ⟨ret_bool (by unfold irr; rw [HI.out]; rfl), hb⟩
set_option maxRecDepth 10000 in
set_option maxHeartbeats 400000 in
theorem sIsIrreducible (v : Value) (m : List (List Int)) (w : World) (h : Mat w v m) :
    Calls Try.prog 41 #[v] w fun e w' => e = .returned (.bool (irr m)) ∧ Below w.heap.size w w' := by
  go_enter Try.func41, Try.ntmps41
  go_wp2_with fail
  refine (sReachOf v m _ h).mono ?_
  rintro e w1 ⟨v1, rfl, ho, hb⟩
  have h1 := h.keep hb
  obtain ⟨a, n, cap, rfl, HL, hn, HC⟩ := ho.mat.open
  clear ho
  go_wp2
  go_loop [4] (fun i => ∃ j : Nat, j ≤ n ∧ i = .int .i64 j ∧ Hid (((reachM m).take j).all noZero = true)) (fun i => n - (intOf i).toNat)
  case atStart => exact ⟨0, Nat.zero_le _, rfl, Lib.hid (by simp)⟩
  case round =>
    obtain ⟨k, hk, rfl, HT⟩ := hrel
    by_cases hlt : k < n
    · obtain ⟨b, off, u, r, rfl, hc, HX, hu⟩ := HC.out k hlt
      obtain ⟨a', n', cap', rfl, HL', hn', HC'⟩ := hu.open
      have hnn : n' = n := by have := reachM_row HX.out; have := HL.out; have := HL'.out; omega
      subst hnn
      clear hu
      go_wp2
      go_loop [5] (fun i => ∃ j : Nat, j ≤ n' ∧ i = .int .i64 j ∧ Hid ((r.take j).all nzI = true)) (fun i => n' - (intOf i).toNat)
      case atStart => exact ⟨0, Nat.zero_le _, rfl, Lib.hid (by simp)⟩
      case round =>
        obtain ⟨j, hj, rfl, HT'⟩ := hrel
        by_cases hlt' : j < n'
        · obtain ⟨b', off', x, rfl, hc', HX'⟩ := HC'.out j hlt'
          by_cases hx : x = 0
          · subst hx
            go_wp2
            go_ret
            exact ⟨ret_bool (by unfold irr; rw [all_false HX.out (all_false HX'.out rfl), Bool.and_false]), hb⟩
          · have hne : (x == 0) = false := beq_eq_false_iff_ne.2 hx
            go_wp2
            go_round
            case rel => exact ⟨j + 1, by omega, by go_num, Lib.hid (all_take_succ HX'.out HT'.out (nzI_yes hx))⟩
            case measure => simp [intOf]; omega
        · go_wp2
          go_round
          case rel => exact ⟨k + 1, by omega, by go_num, Lib.hid (all_take_succ HX.out HT.out (all_take_all HL'.out hlt' HT'.out))⟩
          case measure => simp [intOf]; omega
    · go_wp2_with (go_at_call 28; refine (sIsMatrix _ m _ h1).mono ?_; rintro e w2 ⟨rfl, rfl⟩)
      go_ret
      exact ⟨ret_bool (by unfold irr; rw [all_take_all HL.out hlt HT.out, Bool.and_true]), hb⟩
end Go.Proofs.Ytenjakgahniijaa
