/- Contracts of ArcsOf, the program's and the reference's. No statement is proved here. -/
import Derived.Test.YtenjakgahniijaaMatC
import Derived.Test.YtenjakgahniijaaTab
namespace Go.Proofs.Ytenjakgahniijaa
open Go.RowKit Go.Deep
/-- The arcs of a table's rows below i, of row i's numbers below j, and k of number j. -/
def arcsRow (m : List (List Int)) (i : Nat) : Nat → List (List Int)
  | 0 => []
  | j + 1 => arcsRow m i j ++ List.replicate (ent m i j).toNat [(i : Int), (j : Int)]
def arcsTo (m : List (List Int)) (n : Nat) : Nat → List (List Int)
  | 0 => []
  | i + 1 => arcsTo m n i ++ arcsRow m i n
def arcsAt (m : List (List Int)) (n i j k : Nat) : List (List Int) := arcsTo m n i ++ (arcsRow m i j ++ List.replicate k [(i : Int), (j : Int)])
def arcs (m : List (List Int)) : List (List Int) := arcsTo m m.length m.length
theorem arcsAt_step (m : List (List Int)) (n i j k : Nat) : arcsAt m n i j (k + 1) = arcsAt m n i j k ++ [[(i : Int), (j : Int)]] := by
  simp [arcsAt, List.replicate_succ']
theorem arcsAt_col (m : List (List Int)) (n i j : Nat) {x : Int} (h : ent m i j = x) : arcsAt m n i j x.toNat = arcsAt m n i (j + 1) 0 := by
  subst h; simp [arcsAt, arcsRow]
theorem arcsAt_row (m : List (List Int)) (n i : Nat) : arcsAt m n i n 0 = arcsAt m n (i + 1) 0 0 := by simp [arcsAt, arcsTo, arcsRow]
theorem arcsAt_zero (m : List (List Int)) (n : Nat) : arcsAt m n 0 0 0 = [] := rfl
theorem arcsAt_all (m : List (List Int)) {n : Nat} (h : m.length = n) : arcsAt m n n 0 0 = arcs m := by subst h; simp [arcsAt, arcs, arcsRow]
theorem mem_le_sum : ∀ {l : List Int}, (∀ x ∈ l, 0 ≤ x) → ∀ x ∈ l, x ≤ sumI l := by
  intro l
  induction l with
  | nil => intro _ x hx; simp at hx
  | cons a l ih =>
    intro h x hx
    have h0 := h a (by simp)
    have e : sumI (a :: l) = a + sumI l := by simp [sumI]
    have hs : 0 ≤ sumI l := by
      clear ih hx e
      have hl : ∀ x ∈ l, 0 ≤ x := fun x hx => h x (by simp [hx])
      clear h h0
      induction l with
      | nil => simp [sumI]
      | cons b l ih =>
        have e : sumI (b :: l) = b + sumI l := by simp [sumI]
        have := hl b (by simp)
        have := ih (fun x hx => hl x (by simp [hx]))
        omega
    rw [e]
    rcases List.mem_cons.1 hx with rfl | hx
    · omega
    · have := ih (fun y hy => h y (by simp [hy])) x hx
      omega
theorem isGr_mat {m : List (List Int)} (h : isGr m = true) : isMat m = true ∧ sumOf m ≤ 60 := by
  unfold isGr at h; simpa using h
theorem isGr_ent {m : List (List Int)} (h : isGr m = true) {i j : Nat} (hi : i < m.length) (hj : j < m.length) : 0 ≤ ent m i j ∧ ent m i j ≤ 60 := by
  have h1 := isGr_mat h
  have h2 := isMat_ent h1.1 hi hj
  have hr := List.getElem?_eq_getElem hi
  have hl := isMat_row h1.1 hr
  have hx : (m[i])[j]? = some ((m[i])[j]'(by omega)) := List.getElem?_eq_getElem _
  have h3 := mem_le_sum (fun x hx => ((isMat_mem h1.1 (List.mem_of_getElem? hr)).2 x hx).1) _ (List.mem_of_getElem? hx)
  have h4 := mem_le_sum (l := m.map sumI) (fun x hx => by
    obtain ⟨r, hr, rfl⟩ := List.mem_map.1 hx
    obtain ⟨q, hq, rfl⟩ := List.mem_iff_getElem.1 hr
    exact (sumI_row_bd h1.1 (List.getElem?_eq_getElem hq)).1) (sumI m[i]) (List.mem_map.2 ⟨_, List.mem_of_getElem? hr, rfl⟩)
  have h5 : sumI (m.map sumI) = sumOf m := by rw [sumOf_yes h1.1]; rfl
  rw [ent_of hr hx] at h2 ⊢
  omega
theorem arcsRow_len {m : List (List Int)} (g : isGr m = true) {i : Nat} (hi : i < m.length) : ∀ j, j ≤ m.length → ((arcsRow m i j).length : Int) = sumI ((m.getD i []).take j) ∧ (arcsRow m i j).length ≤ 60 * j := by
  have h := (isGr_mat g).1
  intro j
  induction j with
  | zero => intro _; simp [arcsRow, sumI]
  | succ j ih =>
    intro hj
    have ih' := ih (by omega)
    have hr : m[i]? = some (m.getD i []) := get_of_lt hi
    have hx : (m.getD i [])[j]? = some (ent m i j) := by
      have hl := isMat_row h hr
      rw [get_of_lt (d := 0) (by omega)]; rfl
    have hb := isGr_ent g hi (show j < m.length by omega)
    rw [sumI_succ hx]
    simp only [arcsRow, List.length_append, List.length_replicate]
    omega
theorem arcsTo_len {m : List (List Int)} (g : isGr m = true) : ∀ i, i ≤ m.length → ((arcsTo m m.length i).length : Int) = sumM (m.take i) ∧ (arcsTo m m.length i).length ≤ 540 * i := by
  have h := (isGr_mat g).1
  intro i
  induction i with
  | zero => intro _; simp [arcsTo, sumM, sumI]
  | succ i ih =>
    intro hi
    have ih' := ih (by omega)
    have hr : m[i]? = some (m.getD i []) := get_of_lt (show i < m.length by omega)
    have h1 := arcsRow_len g (show i < m.length by omega) m.length (Nat.le_refl _)
    rw [List.take_of_length_le (by rw [isMat_row h hr]; exact Nat.le_refl _)] at h1
    have h9 := (isMat_len h).2
    rw [sumM_succ hr]
    simp only [arcsTo, List.length_append]
    omega
theorem arcsAt_len {m : List (List Int)} (g : isGr m = true) {n i j k : Nat} (hn : m.length = n) (hi : i < n) (hj : j < n) (hk : (k : Int) ≤ ent m i j) : (arcsAt m n i j k).length ≤ 20000 := by
  subst hn
  have h := (isGr_mat g).1
  have h1 := (arcsTo_len g i (by omega)).2
  have h2 := (arcsRow_len g hi j (by omega)).2
  have h3 := isGr_ent g hi hj
  have h9 := (isMat_len h).2
  simp only [arcsAt, List.length_append, List.length_replicate]
  omega
theorem arcs_len {m : List (List Int)} (g : isGr m = true) : ((arcs m).length : Int) = sumOf m := by
  rw [sumOf_yes (isGr_mat g).1]
  have := (arcsTo_len g m.length (Nat.le_refl _)).1
  rw [List.take_of_length_le (Nat.le_refl _)] at this
  exact this
theorem arcsRow_mem {m : List (List Int)} {i : Nat} : ∀ {j : Nat} {r : List Int}, r ∈ arcsRow m i j → ∃ b : Nat, b < j ∧ r = [(i : Int), (b : Int)] := by
  intro j
  induction j with
  | zero => intro r h; simp [arcsRow] at h
  | succ j ih =>
    intro r h
    simp only [arcsRow, List.mem_append] at h
    rcases h with h | h
    · obtain ⟨b, hb, e⟩ := ih h; exact ⟨b, by omega, e⟩
    · exact ⟨j, by omega, (List.mem_replicate.1 h).2⟩
theorem arcsTo_mem {m : List (List Int)} {n : Nat} : ∀ {i : Nat} {r : List Int}, r ∈ arcsTo m n i → ∃ a b : Nat, a < i ∧ b < n ∧ r = [(a : Int), (b : Int)] := by
  intro i
  induction i with
  | zero => intro r h; simp [arcsTo] at h
  | succ i ih =>
    intro r h
    simp only [arcsTo, List.mem_append] at h
    rcases h with h | h
    · obtain ⟨a, b, ha, hb, e⟩ := ih h; exact ⟨a, b, by omega, hb, e⟩
    · obtain ⟨b, hb, e⟩ := arcsRow_mem h; exact ⟨i, b, by omega, hb, e⟩
theorem arcs_mem {m : List (List Int)} {r : List Int} (h : r ∈ arcs m) : ∃ a b : Nat, a < m.length ∧ b < m.length ∧ r = [(a : Int), (b : Int)] := arcsTo_mem h
theorem total_const {l : List (List Int)} {c : Nat} (h : ∀ r ∈ l, r.length ≤ c) : total l ≤ c * l.length := by
  induction l with
  | nil => simp [total]
  | cons a l ih =>
    have h1 := h a (by simp)
    have h2 := ih (fun r hr => h r (by simp [hr]))
    have e : total (a :: l) = a.length + total l := by simp [total]
    rw [e, List.length_cons, Nat.mul_succ]; omega
def arcsOf (m : List (List Int)) : List (List Int) := if isGr m = true then arcs m else []
theorem arcs_small {m : List (List Int)} (h : isGr m = true) : (arcs m).length ≤ 60 ∧ (arcs m).length + total (arcs m) ≤ 4000000 := by
  have h1 := isGr_mat h
  have h2 := arcs_len h
  have h3 := total_const (l := arcs m) (c := 2) (fun r hr => by obtain ⟨a, b, _, _, rfl⟩ := arcs_mem hr; exact Nat.le_refl _)
  omega
theorem arcsOf_size (m : List (List Int)) : (arcsOf m).length + total (arcsOf m) ≤ 4000000 := by
  unfold arcsOf
  split
  · rename_i h; exact (arcs_small h).2
  · decide
theorem Own.pair (ti : TypeId) (w : World) (x y : Int) : Own ti w.heap.size (w.alloc (.cells #[.int .i64 x, .int .i64 y] ti)) (.slice (some ⟨w.heap.size, 0, none⟩) 2 2) (ints [x, y]) :=
  World.ownsRow_lit w #[.int .i64 x, .int .i64 y] 2 (Nat.le_refl _) (by simp [maxLen]) rfl
set_option maxRecDepth 10000 in
set_option maxHeartbeats 400000 in
theorem iarcs (v : Value) (m : List (List Int)) (w : World) (h : Mat w v m) (hg : isGr m = true) :
    Calls Try.prog 49 #[v] w fun e w' => ∃ v', e = .returned v' ∧ OwnMat 28 3 w.heap.size w' v' (arcs m) ∧ Below w.heap.size w w' := by
  obtain ⟨a, n, cap, rfl, HL, hn, HC⟩ := h.open
  clear h
  have hm := (isGr_mat hg).1
  have HGR := Lib.hid hg; clear hg
  have n9 : n ≤ 9 := by have := (isMat_len hm).2; have := HL.out; omega
  have HI := Lib.hid hm; clear hm
  go_enter Try.func49, Try.ntmps49
  go_wp2
  go_loopw [3, 11] (fun v i wr => ∃ k : Nat, k ≤ n ∧ i = .int .i64 k ∧ OwnMat 28 3 w.heap.size wr v (arcsAt m n k 0 0) ∧ Below w.heap.size w wr) (fun _ i _ => n - (intOf i).toNat)
  case atStart => exact ⟨0, Nat.zero_le _, rfl, by rw [arcsAt_zero]; exact OwnMat.empty _ _ _, below_alloc _ _⟩
  case round =>
    obtain ⟨i, hi, rfl, ho, hb⟩ := hrel
    by_cases hlti : i < n
    · obtain ⟨b, off, u, r, rfl, hc, HX, hu⟩ := HC.out i hlti
      obtain ⟨a', n', cap', rfl, HL', hn', HC'⟩ := hu.open
      have hnn : n' = n := by have := isMat_row HI.out HX.out; have := HL.out; have := HL'.out; omega
      subst hnn
      clear hu
      have hc1 := cell_keep hb hc
      go_wp2
      go_loopw [3, 18] (fun v i' wr => ∃ j : Nat, j ≤ n' ∧ i' = .int .i64 j ∧ OwnMat 28 3 w.heap.size wr v (arcsAt m n' i j 0) ∧ Below w.heap.size w wr) (fun _ i _ => n' - (intOf i).toNat)
      case atStart => exact ⟨0, Nat.zero_le _, rfl, ho, hb⟩
      case round =>
        obtain ⟨j, hj, rfl, ho, hb⟩ := hrel
        by_cases hltj : j < n'
        · obtain ⟨b', off', x, rfl, hc', HX'⟩ := HC'.out j hltj
          have hc1' := cell_keep hb hc'
          have hx := isMat_num HI.out HX.out HX'.out
          have hx0 := hx.1
          have hx1 := hx.2
          clear hx
          have HE := Lib.hid (ent_of HX.out HX'.out)
          go_wp2
          go_loopw [3, 24] (fun v i' wr => ∃ k : Nat, (k : Int) ≤ x ∧ i' = .int .i64 k ∧ OwnMat 28 3 w.heap.size wr v (arcsAt m n' i j k) ∧ Below w.heap.size w wr) (fun _ i _ => (x - intOf i).toNat)
          case atStart => exact ⟨0, by omega, rfl, ho, hb⟩
          case round =>
            obtain ⟨k, hk, rfl, ho, hb⟩ := hrel
            by_cases hltk : (k : Int) < x
            · have hp := Own.pair 3 wr i j
              have hH := ho.toH.keep (below_alloc wr (.cells #[.int .i64 i, .int .i64 j] 3))
              have hs := hb.size
              have HLEN := Lib.hid (arcsAt_len HGR.out HL.out hlti hltj (by rw [HE.out]; exact hk))
              go_wp2_with (at_builtin; refine appM 24 28 3 Try.underlying24 Try.infoInts (by decide) hH hp hs (by simp) (by have := HLEN.out; omega) rfl _ _ rfl rfl rfl (by simp) ?_)
              intro v' w1 ho1 hg _
              go_wp2
              go_roundw
              case rel => exact ⟨k + 1, by omega, by go_num, by rw [arcsAt_step]; exact ho1, (hb.alloc hs _).trans (grow_below hg (fun k hk => (ho.own k hk).1) (Nat.le_refl _) (by simp; omega))⟩
              case measure => simp [intOf]; omega
            · have e : k = x.toNat := by omega
              have HK := Lib.hid (arcsAt_col m n' i j HE.out)
              rw [← e] at HK
              go_wp2
              go_roundw
              case rel => exact ⟨j + 1, by omega, by go_num, by rw [← HK.out]; exact ho, hb⟩
              case measure => simp [intOf]; omega
        · have e : j = n' := by omega
          subst e
          go_wp2
          go_roundw
          case rel => exact ⟨i + 1, by omega, by go_num, by rw [← arcsAt_row]; exact ho, hb⟩
          case measure => simp [intOf]; omega
    · have e : i = n := by omega
      subst e
      go_wp2
      go_ret
      exact ⟨_, rfl, by rw [← arcsAt_all m HL.out]; exact ho, hb⟩
set_option maxRecDepth 10000 in
set_option maxHeartbeats 400000 in
theorem sarcs (v : Value) (m : List (List Int)) (w : World) (h : Mat w v m) (hg : isGr m = true) :
    Calls Try.prog 59 #[v] w fun e w' => ∃ v', e = .returned v' ∧ OwnMat 28 3 w.heap.size w' v' (arcs m) ∧ Below w.heap.size w w' := by
  obtain ⟨a, n, cap, rfl, HL, hn, HC⟩ := h.open
  clear h
  have hm := (isGr_mat hg).1
  have HGR := Lib.hid hg; clear hg
  have n9 : n ≤ 9 := by have := (isMat_len hm).2; have := HL.out; omega
  have HI := Lib.hid hm; clear hm
  go_enter Try.func59, Try.ntmps59
  go_wp2
  go_loopw [3, 4] (fun v i wr => ∃ k : Nat, k ≤ n ∧ i = .int .i64 k ∧ OwnMat 28 3 w.heap.size wr v (arcsAt m n k 0 0) ∧ Below w.heap.size w wr) (fun _ i _ => n - (intOf i).toNat)
  case atStart => exact ⟨0, Nat.zero_le _, rfl, by rw [arcsAt_zero]; exact OwnMat.empty _ _ _, below_alloc _ _⟩
  case round =>
    obtain ⟨i, hi, rfl, ho, hb⟩ := hrel
    by_cases hlti : i < n
    · obtain ⟨b, off, u, r, rfl, hc, HX, hu⟩ := HC.out i hlti
      obtain ⟨a', n', cap', rfl, HL', hn', HC'⟩ := hu.open
      have hnn : n' = n := by have := isMat_row HI.out HX.out; have := HL.out; have := HL'.out; omega
      subst hnn
      clear hu
      go_wp2
      go_loopw [3, 5] (fun v i' wr => ∃ j : Nat, j ≤ n' ∧ i' = .int .i64 j ∧ OwnMat 28 3 w.heap.size wr v (arcsAt m n' i j 0) ∧ Below w.heap.size w wr) (fun _ i _ => n' - (intOf i).toNat)
      case atStart => exact ⟨0, Nat.zero_le _, rfl, ho, hb⟩
      case round =>
        obtain ⟨j, hj, rfl, ho, hb⟩ := hrel
        by_cases hltj : j < n'
        · obtain ⟨b', off', x, rfl, hc', HX'⟩ := HC'.out j hltj
          have hx := isMat_num HI.out HX.out HX'.out
          have hx0 := hx.1
          have hx1 := hx.2
          clear hx
          have HE := Lib.hid (ent_of HX.out HX'.out)
          go_wp2
          go_loopw [3, 6] (fun v i' wr => ∃ k : Nat, (k : Int) ≤ x ∧ i' = .int .i64 k ∧ OwnMat 28 3 w.heap.size wr v (arcsAt m n' i j k) ∧ Below w.heap.size w wr) (fun _ i _ => (x - intOf i).toNat)
          case atStart => exact ⟨0, by omega, rfl, ho, hb⟩
          case round =>
            obtain ⟨k, hk, rfl, ho, hb⟩ := hrel
            have hc1 := cell_keep hb hc
            have hc1' := cell_keep hb hc'
            by_cases hltk : (k : Int) < x
            · have hp := Own.pair 3 wr i j
              have hH := ho.toH.keep (below_alloc wr (.cells #[.int .i64 i, .int .i64 j] 3))
              have hs := hb.size
              have HLEN := Lib.hid (arcsAt_len HGR.out HL.out hlti hltj (by rw [HE.out]; exact hk))
              go_wp2_with (at_builtin; refine appM 24 28 3 Try.underlying24 Try.infoInts (by decide) hH hp hs (by simp) (by have := HLEN.out; omega) rfl _ _ rfl rfl rfl (by simp) ?_)
              intro v' w1 ho1 hg _
              go_wp2
              go_roundw
              case rel => exact ⟨k + 1, by omega, by go_num, by rw [arcsAt_step]; exact ho1, (hb.alloc hs _).trans (grow_below hg (fun k hk => (ho.own k hk).1) (Nat.le_refl _) (by simp; omega))⟩
              case measure => simp [intOf]; omega
            · have e : k = x.toNat := by omega
              have HK := Lib.hid (arcsAt_col m n' i j HE.out)
              rw [← e] at HK
              go_wp2
              go_roundw
              case rel => exact ⟨j + 1, by omega, by go_num, by rw [← HK.out]; exact ho, hb⟩
              case measure => simp [intOf]; omega
        · have e : j = n' := by omega
          subst e
          go_wp2
          go_roundw
          case rel => exact ⟨i + 1, by omega, by go_num, by rw [← arcsAt_row]; exact ho, hb⟩
          case measure => simp [intOf]; omega
    · have e : i = n := by omega
      subst e
      go_wp2
      go_ret
      exact ⟨_, rfl, by rw [← arcsAt_all m HL.out]; exact ho, hb⟩
set_option maxRecDepth 10000 in
set_option maxHeartbeats 400000 in
theorem iArcsOf (v : Value) (m : List (List Int)) (w : World) (h : Mat w v m) :
    Calls Try.prog 13 #[v] w fun e w' => ∃ v', e = .returned v' ∧ OwnMat 28 3 w.heap.size w' v' (arcsOf m) ∧ Below w.heap.size w w' := by
  cases hm : isGr m
  · have HI := Lib.hid hm; clear hm
    go_enter Try.func13, Try.ntmps13
    go_wp2_with (go_at_call 23; refine (iIsGraph _ m _ h).mono ?_; rintro e w2 ⟨rfl, rfl⟩; rw [HI.out])
    go_ret
    exact ⟨_, rfl, by unfold arcsOf; rw [if_neg (by rw [HI.out]; decide)]; exact OwnMat.nil _ _ _ _, Below.refl _ _⟩
  · have HI := Lib.hid hm; clear hm
    go_enter Try.func13, Try.ntmps13
    go_wp2_with (first | (go_at_call 23; refine (iIsGraph _ m _ h).mono ?_; rintro e w2 ⟨rfl, rfl⟩; rw [HI.out]) | (go_at_call 49; refine (iarcs _ m _ h HI.out).mono ?_; rintro e w2 ⟨v2, rfl, ho2, hb2⟩))
    go_ret
    exact ⟨_, rfl, by unfold arcsOf; rw [if_pos HI.out]; exact ho2, hb2⟩
set_option maxRecDepth 10000 in
set_option maxHeartbeats 400000 in
theorem sArcsOf (v : Value) (m : List (List Int)) (w : World) (h : Mat w v m) :
    Calls Try.prog 20 #[v] w fun e w' => ∃ v', e = .returned v' ∧ OwnMat 28 3 w.heap.size w' v' (arcsOf m) ∧ Below w.heap.size w w' := by
  cases hm : isGr m
  · have HI := Lib.hid hm; clear hm
    go_enter Try.func20, Try.ntmps20
    go_wp2_with (go_at_call 24; refine (sIsGraph _ m _ h).mono ?_; rintro e w2 ⟨rfl, rfl⟩; rw [HI.out])
    go_ret
    exact ⟨_, rfl, by unfold arcsOf; rw [if_neg (by rw [HI.out]; decide)]; exact OwnMat.empty _ _ _, below_alloc _ _⟩
  · have HI := Lib.hid hm; clear hm
    go_enter Try.func20, Try.ntmps20
    go_wp2_with (first | (go_at_call 24; refine (sIsGraph _ m _ h).mono ?_; rintro e w2 ⟨rfl, rfl⟩; rw [HI.out]) | (go_at_call 59; refine (sarcs _ m _ h HI.out).mono ?_; rintro e w2 ⟨v2, rfl, ho2, hb2⟩))
    go_ret
    exact ⟨_, rfl, by unfold arcsOf; rw [if_pos HI.out]; exact ho2, hb2⟩
end Go.Proofs.Ytenjakgahniijaa
