/- What FnGraphs draws. No statement is proved here. -/
import Derived.Test.YtenjakgahniijaaDrawM
import Derived.Test.YtenjakgahniijaaPathI
namespace Go.Proofs.Ytenjakgahniijaa
open Go.RowKit Go.Deep
set_option maxRecDepth 10000 in
set_option maxHeartbeats 400000 in
theorem dTrim (v : Value) (l : List UInt8) (w : World) (hv : BytesV w v l) :
    Calls Try.prog 9 #[v] w fun e w' => ∃ v' m, e = .returned v' ∧ OwnMat 28 3 w.heap.size w' v' m ∧ SmallB m ∧ Below w.heap.size w w' := by
  obtain ⟨a, cap, rfl, _, _⟩ := Row.open hv
  go_enter Try.func9, Try.ntmps9
  go_wp2_with fail
  refine (l1New _ l _ hv).mono ?_
  rintro e w1 ⟨N, rfl, hC, b1⟩
  go_wp2_with fail
  refine (l4Bent w N l.length _ l _ hv rfl hC).mono ?_
  rintro e w2 ⟨v2, m, rfl, ho, hS, hC2, _⟩
  have b2 := hC2.2.1
  obtain ⟨a2, c2, rfl⟩ := ho.form
  go_wp2
  go_ret
  exact ⟨_, m, rfl, ho.mono b1.size, hS, b2⟩
set_option maxRecDepth 10000 in
set_option maxHeartbeats 400000 in
theorem dPaths (v : Value) (l : List UInt8) (w : World) (hv : BytesV w v l) :
    Calls Try.prog 6 #[v] w fun e w' => ∃ v' m x, e = .returned (.tuple #[v', .int .i64 x]) ∧ OwnMat 28 3 w.heap.size w' v' m ∧ SmallB m ∧ Below w.heap.size w w' := by
  obtain ⟨a, cap, rfl, _, _⟩ := Row.open hv
  go_enter Try.func6, Try.ntmps6
  go_wp2_with fail
  refine (l1New _ l _ hv).mono ?_
  rintro e w1 ⟨N, rfl, hC, b1⟩
  have hlt := hC.lt
  go_wp2_with fail
  refine (l4Bent w N l.length _ l _ hv rfl hC).mono ?_
  rintro e w2 ⟨v2, m, rfl, ho, hS, hC2, _⟩
  go_wp2_with fail
  refine (l1Below w N l.length _ l _ hv rfl hC2 3 (by omega) (by omega)).mono ?_
  rintro e w3 ⟨c, rfl, hc, hC3, hg3⟩
  replace ho := ho.grownN hg3 hlt
  have hlt3 := hC3.lt
  go_wp2_with fail
  refine (pickI w N l.length _ l _ hv rfl hC3 [0, 0, 0, 0, -3, 4] 3 6 rfl (by omega) (by omega) 6).mono ?_
  rintro e w4 ⟨y, rfl, hy, hC4, hg4⟩
  replace ho := (ho.grownN hg4 hlt).mono b1.size
  have b4 := hC4.2.1
  have hy2 : -3 ≤ y ∧ y ≤ 4 := by
    simp only [List.mem_cons, List.not_mem_nil, or_false] at hy
    omega
  clear hy
  obtain ⟨a2, c2, rfl⟩ := ho.form
  go_wp2
  go_ret2
  exact ⟨_, m, _, rfl, ho, hS, b4⟩
set_option maxHeartbeats 800000 in
theorem dIsPath (v : Value) (l : List UInt8) (w : World) (hv : BytesV w v l) :
    Calls Try.prog 8 #[v] w fun e w' => ∃ v' u m p, e = .returned (.tuple #[v', u]) ∧ OwnMat 28 3 w.heap.size w' v' m ∧ Ints w' u p ∧ Below w.heap.size w w' := by
  obtain ⟨a, cap, rfl, _, _⟩ := Row.open hv
  go_enter Try.func8, Try.ntmps8
  go_wp2_with fail
  refine (l1New _ l _ hv).mono ?_
  rintro e w1 ⟨N, rfl, hC, b1⟩
  have hlt := hC.lt
  go_wp2_with fail
  refine (l4Bent w N l.length _ l _ hv rfl hC).mono ?_
  rintro e w2 ⟨v2, m, rfl, ho, hS, hC2, hg2⟩
  have z2 := hg2.size
  go_wp2_with fail
  refine (l1Below w N l.length _ l _ hv rfl hC2 4 (by omega) (by omega)).mono ?_
  rintro e w3 ⟨c, rfl, hc, hC3, hg3⟩
  replace ho := ho.grownN hg3 hlt
  have z3 := hg3.size
  go_wp2_with fail
  refine (sPathsOf _ m _ _ ho.mat).mono ?_
  rintro e w4 ⟨v4, rfl, hol, hb4⟩
  replace ho := ho.keep hb4
  have hC4 := hC3.keep hb4
  have hltl : N < w3.heap.size := by omega
  obtain ⟨L, hL⟩ : ∃ L, pathsOf m (1 + (c : Int)) = L := ⟨_, rfl⟩
  rw [hL] at hol
  obtain ⟨al, cl, rfl⟩ := hol.form
  obtain ⟨av, cv, rfl⟩ := ho.form
  obtain ⟨nl, hnl⟩ : ∃ k, L.length = k := ⟨_, rfl⟩
  have HNL := Lib.hid hnl
  have hnl4 : nl ≤ 4000000 := by have := pathsOf_size m (1 + (c : Int)); rw [hL] at this; omega
  rw [hnl]
  clear hL hnl hC2 hC3 hg2 hg3 hb4 z2 z3 hc
  by_cases hn0 : 0 < nl
  · go_wp2_with fail
    refine (l1Once w N l.length _ l _ hv rfl hC4 4 (by omega) (by omega)).mono ?_
    rintro e w5 ⟨o, rfl, hC5, hg5⟩
    have hol5 := hol.grownN hg5 hltl
    replace ho := ho.grownN hg5 hlt
    cases hoo : decide (o = 0)
    · clear hol
      have hbd : Below w5.heap.size w5 w5.drew := (Below.refl _ _).drew
      have hCd := hC5.keep hbd
      have hP := Lib.hid (l1Below w N l.length _ l w5.drew hv rfl hCd nl hn0 (by omega))
      have HL5 : Hid (∀ w', w5.drew.grownBy w' (some N) → Mat w' (.slice al nl cl) L) := Lib.hid fun w' hg => by rw [← HNL.out]; exact ((hol5.keep hbd).grownN hg hltl).mat
      have HO5 : Hid (∀ w', w5.drew.grownBy w' (some N) → OwnMat 28 3 w1.heap.size w' (.slice av m.length cv) m) := Lib.hid fun w' hg => (ho.keep hbd).grownN hg hlt
      clear ho hol5
      go_wp2
      go_region_law (go_simp; go_at_call 47; refine hP.out.mono ?_; rintro e w6 ⟨j, rfl, hj, hC6, hg6⟩; obtain ⟨a9, n9, c9, e9, HL9, hn9, HC9⟩ := (HL5.out w6 hg6).open; simp only [Value.slice.injEq] at e9; obtain ⟨e91, e92, -⟩ := e9; subst e91; subst e92; obtain ⟨bk, off, u, r, e93, hc6, HX6, hr6⟩ := HC9.out j hj; subst e93)
      all_goals
        have b6 := hC6.2.1
        have ho6 := HO5.out w6 hg6
        go_wp2
        go_ret2
        exact ⟨_, _, m, _, rfl, ho6.mono b1.size, hr6, b6⟩
    · clear hol hol5
      go_wp2_with fail
      refine (l1Below w N l.length _ l _ hv rfl hC5 4 (by omega) (by omega)).mono ?_
      rintro e w6 ⟨x, rfl, hx, hC6, hg6⟩
      replace ho := ho.grownN hg6 hlt
      go_wp2_with fail
      refine (l1Below w N l.length _ l _ hv rfl hC6 5 (by omega) (by omega)).mono ?_
      rintro e w7 ⟨y, rfl, hy, hC7, hg7⟩
      replace ho := ho.grownN hg7 hlt
      have b7 := hC7.2.1
      have hba := below_alloc w7 (.cells #[.int .i64 x, .int .i64 ((y : Int) - 1)] 3)
      have hp : Ints (w7.alloc (.cells #[.int .i64 x, .int .i64 ((y : Int) - 1)] 3)) (.slice (some ⟨w7.heap.size, 0, none⟩) 2 2) [(x : Int), (y : Int) - 1] := (Own.pair 3 w7 x ((y : Int) - 1)).row
      go_wp2
      go_ret2
      exact ⟨_, _, m, _, rfl, (ho.keep hba).mono b1.size, hp, b7.trans (hba.mono b7.size)⟩
  · clear hol
    go_wp2_with fail
    refine (l1Below w N l.length _ l _ hv rfl hC4 4 (by omega) (by omega)).mono ?_
    rintro e w6 ⟨x, rfl, hx, hC6, hg6⟩
    replace ho := ho.grownN hg6 hlt
    go_wp2_with fail
    refine (l1Below w N l.length _ l _ hv rfl hC6 5 (by omega) (by omega)).mono ?_
    rintro e w7 ⟨y, rfl, hy, hC7, hg7⟩
    replace ho := ho.grownN hg7 hlt
    have b7 := hC7.2.1
    have hba := below_alloc w7 (.cells #[.int .i64 x, .int .i64 ((y : Int) - 1)] 3)
    have hp : Ints (w7.alloc (.cells #[.int .i64 x, .int .i64 ((y : Int) - 1)] 3)) (.slice (some ⟨w7.heap.size, 0, none⟩) 2 2) [(x : Int), (y : Int) - 1] := (Own.pair 3 w7 x ((y : Int) - 1)).row
    go_wp2
    go_ret2
    exact ⟨_, _, m, _, rfl, (ho.keep hba).mono b1.size, hp, b7.trans (hba.mono b7.size)⟩
end Go.Proofs.Ytenjakgahniijaa
