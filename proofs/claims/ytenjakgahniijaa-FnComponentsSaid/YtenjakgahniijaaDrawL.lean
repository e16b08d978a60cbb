/- What FnComponents draws. No statement is proved here. -/
import Derived.Test.YtenjakgahniijaaDrawM
namespace Go.Proofs.Ytenjakgahniijaa
open Go.RowKit Go.Deep
theorem slc_inj {a b n c c' : Nat} (h : Value.slice (some ⟨a, 0, none⟩) n c = .slice (some ⟨b, 0, none⟩) n c') : a = b ∧ c = c' := by
  simp only [Value.slice.injEq, Option.some.injEq, Addr.mk.injEq] at h; exact ⟨h.1.1, h.2.2⟩
set_option maxRecDepth 10000 in
set_option maxHeartbeats 800000 in
theorem l6Draw (w0 : World) (N n : Nat) (v : Value) (l : List UInt8) (w : World) (hv : BytesV w0 v l) (hl : l.length = n) (hC : Cur w0 N v n w) :
    Calls Try.prog 64 #[.pointer (some ⟨N, 0, none⟩)] w fun e w' => ∃ v' m, e = .returned v' ∧ OwnMat 28 3 w.heap.size w' v' m ∧ Cur w0 N v n w' ∧ w.grownBy w' (some N) := by
  have hlt0 := hC.lt
  go_enter Try.func64, Try.ntmps64
  go_wp2_with fail
  refine (l4Bent w0 N n v l _ hv hl hC).mono ?_
  rintro e w1 ⟨v1, m, rfl, ho1, hS, hC1, hg1⟩
  have z1 := hg1.size
  go_wp2_with fail
  refine (l1Once w0 N n v l _ hv hl hC1 3 (by omega) (by omega)).mono ?_
  rintro e w2 ⟨o, rfl, hC2, hg2⟩
  have z2 := hg2.size
  cases ho : decide (o = 0)
  · replace ho1 := ho1.grownN hg2 hlt0
    have hg := hg1.trans hg2
    obtain ⟨a1, c1, rfl⟩ := ho1.form
    go_wp2
    go_ret
    exact ⟨_, m, rfl, ho1, hC2, hg⟩
  · clear ho ho1 hS
    go_wp2_with fail
    refine (l1Below w0 N n v l _ hv hl hC2 5 (by omega) (by omega)).mono ?_
    rintro e w3 ⟨c, rfl, hc, hC3, hg3⟩
    have z3 := hg3.size
    obtain ⟨k, hk⟩ : ∃ k, 2 + c = k := ⟨_, rfl⟩
    have hk2 : 2 ≤ k := by omega
    have hk3 : k ≤ 6 := by omega
    go_wp2_with fail
    rw [show (2 : Int) + (c : Int) = (k : Int) by omega]
    refine (sZero k k _ (by omega) (by omega)).mono ?_
    rintro e w4 ⟨v3, rfl, ho3, hb3⟩
    have hC4 := hC3.keep hb3
    have hg4 := ((hg1.trans hg2).trans hg3).trans (growL hb3 (some N))
    replace ho3 := ho3.mono (show w.heap.size ≤ w3.heap.size by omega)
    have hf3 : ∃ f, OwnMat 28 3 w.heap.size w4 v3 (tabF k k f) := ⟨_, ho3⟩
    clear ho3 hC1 hC2 hC3 hg1 hg2 hg3 hb3 z1 z2 z3 hc hk
    go_wp2
    go_loopw [5] (fun i wr => ∃ j : Nat, j ≤ k ∧ i = .int .i64 j ∧ (∃ f, OwnMat 28 3 w.heap.size wr v3 (tabF k k f)) ∧ Cur w0 N v n wr ∧ w.grownBy wr (some N)) (fun i _ => k - (intOf i).toNat)
    case atStart => exact ⟨0, Nat.zero_le _, rfl, hf3, hC4, hg4⟩
    case round =>
      clear hf3 hC4 hg4
      obtain ⟨i, hi, rfl, ⟨f, hf⟩, hCr, hgr⟩ := hrel
      by_cases hlt : i < k
      · obtain ⟨q, hq⟩ : ∃ q, (i + 1) % k = q := ⟨_, rfl⟩
        have hqk : q < k := by rw [← hq]; exact Nat.mod_lt _ (by omega)
        have hmod : ((i : Int) + 1) % (k : Int) = (q : Int) := by rw [show (i : Int) + 1 = ((i + 1 : Nat) : Int) by omega, ← Int.natCast_emod, hq]
        have hmod2 : Int.tmod ((i : Int) + 1) (k : Int) = (q : Int) := by rw [Int.tmod_eq_emod_of_nonneg (by omega), hmod]
        clear hq
        obtain ⟨g, cg, gj, cj, rfl, hgB, hgjB, hgs, hgg, hc1, HST⟩ := hf.at3 (by decide) (tabF_get hlt) (rowF_get hqk)
        rw [tabF_length, rowF_length] at *
        have hd : Below wr.heap.size wr wr.drew := (Below.refl _ _).drew
        have hCd := hCr.keep hd
        have hgd := hgr.trans (grow_drew wr 1 (some N))
        have hcd : wr.drew.cell? ⟨g, i, none⟩ = some (.slice (some ⟨gj, 0, none⟩) k cj) := cell_keep hd hc1
        obtain ⟨hx5, hf5, HS5⟩ := HST.out wr.drew hcd (hf.keep hd)
        obtain ⟨hx6, hf6, -⟩ := HST.out wr hc1 hf
        go_wp2
        go_region
        go_wp2
        go_roundw
        case rel => exact ⟨i + 1, by omega, by go_num, ⟨_, by have h9 := HS5 1; rw [setAt_tabF _ _ _ _ _ _ hlt] at h9; exact h9⟩, hCd.set (a := ⟨gj, q, none⟩) (show N < gj by omega) _, growSet hgd (a := ⟨gj, q, none⟩) hgjB _⟩
        case measure => simp [intOf]; omega
      · go_wp2_with fail
        refine (l1Once w0 N n v l _ hv hl hCr 2 (by omega) (by omega)).mono ?_
        rintro e w5 ⟨o, rfl, hC5, hg5⟩
        have hf5 := hf.grownN hg5 hlt0
        have hg := hgr.trans hg5
        clear hf hCr hgr hg5
        cases ho : decide (o = 0)
        · obtain ⟨a1, c1, rfl⟩ := hf5.form
          go_wp2
          go_ret
          exact ⟨_, _, rfl, hf5, hC5, hg⟩
        · have hk0 : 0 < k := by omega
          have hd : Below w5.heap.size w5 w5.drew := (Below.refl _ _).drew
          have hCd := hC5.keep hd
          have hfd := hf5.keep hd
          have hgd := hg.trans (grow_drew w5 1 (some N))
          have hP := Lib.hid (l1Below w0 N n v l w5.drew hv hl hCd k hk0 (by omega))
          have hQ : Hid (∀ w', Cur w0 N v n w' → Calls Try.prog 47 #[.pointer (some ⟨N, 0, none⟩), .int .i64 k] w' fun e w'' => ∃ x : Nat, e = .returned (.int .i64 x) ∧ x < k ∧ Cur w0 N v n w'' ∧ w'.grownBy w'' (some N)) := Lib.hid fun w' h => l1Below w0 N n v l w' hv hl h k hk0 (by omega)
          have HAT : Hid (∀ (w' : World) x y, OwnMat 28 3 w.heap.size w' v3 (tabF k k f) → x < k → y < k → ∃ g cap gj capj, v3 = .slice (some ⟨g, 0, none⟩) k cap ∧ w.heap.size ≤ g ∧ w.heap.size ≤ gj ∧ w'.cell? ⟨g, x, none⟩ = some (.slice (some ⟨gj, 0, none⟩) k capj) ∧
              Hid (∀ w'', w''.cell? ⟨g, x, none⟩ = some (.slice (some ⟨gj, 0, none⟩) k capj) → OwnMat 28 3 w.heap.size w'' v3 (tabF k k f) → w''.cell? ⟨gj, y, none⟩ = some (.int .i64 (f x y)) ∧ w''.frozen? ⟨gj, y, none⟩ = false ∧ ∀ u, OwnMat 28 3 w.heap.size (w''.setCell ⟨gj, y, none⟩ (.int .i64 u)) v3 (setAt (tabF k k f) x y u))) := Lib.hid fun w' x y h hx hy => by
            obtain ⟨g, cg, gj, cj, e, h1, h2, -, -, h5, h6⟩ := h.at3 (by decide) (tabF_get hx) (rowF_get hy)
            rw [tabF_length] at e
            rw [rowF_length] at h5 h6
            exact ⟨g, cg, gj, cj, e, h1, h2, h5, h6⟩
          obtain ⟨g, cg, hv3⟩ : ∃ g cg, v3 = .slice (some ⟨g, 0, none⟩) k cg := by
            obtain ⟨g, cg, _, _, e, _⟩ := HAT.out w5 0 0 hf5 hk0 hk0
            exact ⟨g, cg, e⟩
          have hgN : N < g := by
            obtain ⟨g2, cg2, _, _, e, h1, _⟩ := HAT.out w5 0 0 hf5 hk0 hk0
            rw [hv3] at e
            obtain ⟨rfl, -⟩ := slc_inj e
            omega
          subst hv3
          have hgN2 : g ≠ N := by omega
          go_wp2
          go_region_law (go_simp; go_at_call 47; first
            | (refine hP.out.mono ?_; rintro e w6 ⟨x, rfl, hx, hC6, hg6⟩; have hf6 := hfd.grownN hg6 hlt0; have hQ6 := Lib.hid (hQ.out w6 hC6); have hkp6 : Hid (∀ w', w6.grownBy w' (some N) → OwnMat 28 3 w.heap.size w' (.slice (some ⟨g, 0, none⟩) k cg) (tabF k k f)) := Lib.hid (fun w' h => hf6.grownN h hlt0); obtain ⟨g2, cg2, gj, cj, e, -, hgj, hc6, HST⟩ := HAT.out w6 x 0 hf6 hx hk0; obtain ⟨rfl, -⟩ := slc_inj e; clear e HST)
            | (refine hQ6.out.mono ?_; rintro e w7 ⟨y, rfl, hy, hC7, hg7⟩; have hf7 := hkp6.out w7 hg7; have hc7 := hg7.cell hc6 (fun e => hgN2 (Option.some.inj e)); obtain ⟨g3, cg3, gj3, cj3, e, -, hgj3, hc8, HST⟩ := HAT.out w7 x y hf7 hx hy; obtain ⟨rfl, -⟩ := slc_inj e; obtain ⟨rfl, -⟩ := slc_inj (Option.some.inj (hc8.symm.trans hc7)); obtain ⟨hx7, hfr7, HS7⟩ := HST.out w7 hc8 hf7))
          all_goals
            go_wp2
            go_ret
            exact ⟨_, _, rfl, HS7 1, hC7.set (a := ⟨gj3, y, none⟩) (show N < gj3 by omega) _, growSet ((hgd.trans hg6).trans hg7) (a := ⟨gj3, y, none⟩) hgj3 _⟩
set_option maxRecDepth 10000 in
set_option maxHeartbeats 400000 in
theorem dPeriod (v : Value) (l : List UInt8) (w : World) (hv : BytesV w v l) :
    Calls Try.prog 29 #[v] w fun e w' => ∃ v' m, e = .returned v' ∧ OwnMat 28 3 w.heap.size w' v' m ∧ Below w.heap.size w w' := by
  obtain ⟨a, cap, rfl, _, _⟩ := Row.open hv
  go_enter Try.func29, Try.ntmps29
  go_wp2_with fail
  refine (l1New _ l _ hv).mono ?_
  rintro e w1 ⟨N, rfl, hC, b1⟩
  go_wp2_with fail
  refine (l6Draw w N l.length _ l _ hv rfl hC).mono ?_
  rintro e w2 ⟨v2, m, rfl, ho, hC2, _⟩
  have b2 := hC2.2.1
  obtain ⟨a2, c2, rfl⟩ := ho.form
  go_wp2
  go_ret
  exact ⟨_, m, rfl, ho.mono b1.size, b2⟩
end Go.Proofs.Ytenjakgahniijaa
