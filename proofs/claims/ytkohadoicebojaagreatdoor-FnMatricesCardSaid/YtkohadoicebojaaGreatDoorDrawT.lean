/- What FnMatrices draws. No statement is proved here. -/
import Derived.Test.YtkohadoicebojaaGreatDoorDrawM
import Derived.Test.YtkohadoicebojaaGreatDoorMatT
namespace Go.Proofs.YtkohadoicebojaaGreatDoor
open Go.RowKit Go.Deep
theorem matT_size (m : List (List Int)) : (matT m).size ≤ 2000 := by
  unfold matT
  split
  · rename_i h
    exact Nat.le_trans (joined_small (Nat.le_refl 1)) (rowsT_total h)
  · decide
set_option maxRecDepth 10000 in
set_option maxHeartbeats 800000 in
theorem l4Two (v : Value) (l : List UInt8) (w : World) (hv : BytesV w v l) :
    Calls Tryz.prog 50 #[v] w fun e w' => ∃ va vb a b, e = .returned (.tuple #[va, vb]) ∧ OwnMat 62 3 w.heap.size w' va a ∧ OwnMat 62 3 w.heap.size w' vb b ∧ Below w.heap.size w w' := by
  obtain ⟨av, cap, rfl, _, _⟩ := Row.open hv
  go_enter Tryz.func50, Tryz.ntmps50
  go_wp2_with fail
  refine (l1New _ l _ hv).mono ?_
  rintro e w1 ⟨N, rfl, hC, b1⟩
  have hlt0 := hC.lt
  go_wp2_with fail
  refine (l4Bent w N l.length _ l _ hv rfl hC).mono ?_
  rintro e w2 ⟨v2, a, rfl, ho, hS, hC2, hg2⟩
  have z1 := b1.size
  have z2 := hg2.size
  have hlt2' : N < w2.heap.size := by omega
  have hk3 : a.length ≤ 10 := hS.1
  obtain ⟨a2, c2, rfl⟩ := ho.form
  have hkeep : Hid (∀ w', w2.grownBy w' (some N) → OwnMat 62 3 w.heap.size w' (.slice a2 a.length c2) a) := Lib.hid fun w' hg => (ho.grownN hg hlt0).mono z1
  obtain ⟨k, hk⟩ : ∃ k, a.length = k := ⟨_, rfl⟩
  rw [hk] at hkeep hk3 ⊢
  clear ho hS hk hg2 b1
  go_wp2_with fail
  refine (sZero k k _ (by omega) (by omega)).mono ?_
  rintro e w3 ⟨v3, rfl, ho3, hb3⟩
  have hC3 := hC2.keep hb3
  have hg3 : w2.grownBy w3 (some N) := growL hb3 (some N)
  have hf3 : ∃ f, OwnMat 62 3 w2.heap.size w3 v3 (tabF k k f) := ⟨_, ho3⟩
  clear ho3 hb3 hC hC2
  go_wp2
  go_loopw [7] (fun i wr => ∃ j : Nat, j ≤ k ∧ i = .int .i64 j ∧ (∃ f, OwnMat 62 3 w2.heap.size wr v3 (tabF k k f)) ∧ Cur w N (.slice av (bv l).length cap) l.length wr ∧ w2.grownBy wr (some N)) (fun i _ => k - (intOf i).toNat)
  case atStart => exact ⟨0, Nat.zero_le _, rfl, hf3, hC3, hg3⟩
  case round =>
    clear hf3 hC3 hg3
    obtain ⟨i, hi, rfl, hf, hCr, hgr⟩ := hrel
    by_cases hlt : i < k
    · go_wp2
      go_loopw [8] (fun x wr => ∃ j : Nat, j ≤ k ∧ x = .int .i64 j ∧ (∃ f, OwnMat 62 3 w2.heap.size wr v3 (tabF k k f)) ∧ Cur w N (.slice av (bv l).length cap) l.length wr ∧ w2.grownBy wr (some N)) (fun x _ => k - (intOf x).toNat)
      case atStart => exact ⟨0, Nat.zero_le _, rfl, hf, hCr, hgr⟩
      case round =>
        clear hf hCr hgr
        obtain ⟨j, hj, rfl, ⟨f, hf⟩, hCz, hgz⟩ := hrel
        by_cases hlt2 : j < k
        · obtain ⟨g, cg, gj, cj, rfl, hgB, hgjB, hgs, hgg, hc1, HST⟩ := hf.at3 (by decide) (tabF_get hlt) (rowF_get hlt2)
          rw [tabF_length, rowF_length] at *
          have hd : Below wr.heap.size wr wr.drew := (Below.refl _ _).drew
          have hCd := hCz.keep hd
          have hfd := hf.keep hd
          have hgd := hgz.trans (grow_drew wr 1 (some N))
          have hcd : wr.drew.cell? ⟨g, i, none⟩ = some (.slice (some ⟨gj, 0, none⟩) k cj) := cell_keep hd hc1
          have hP := Lib.hid (l1Below w N l.length _ l wr.drew hv rfl hCd 3 (by omega) (by omega))
          have hgN : g ≠ N := by omega
          go_wp2
          go_region_held3 (fun w' => w'.cell? ⟨g, i, none⟩ = some (.slice (some ⟨gj, 0, none⟩) k cj))
            (first | assumption | go_keep)
            ((go_at_call 56; refine hP.out.mono ?_; rintro e w5 ⟨y, rfl, _, hC5, hg5⟩; have hc5 : w5.cell? ⟨g, i, none⟩ = some (.slice (some ⟨gj, 0, none⟩) k cj) := hg5.cell hcd (fun e => hgN (Option.some.inj e)); obtain ⟨hx5, hf5, HS5⟩ := HST.out w5 hc5 (hfd.grownN hg5 hlt2'); have hc6 : (w5.setCell ⟨gj, j, none⟩ (.int .i64 y)).cell? ⟨g, i, none⟩ = some (.slice (some ⟨gj, 0, none⟩) k cj) := by rw [World.cell?_of_block (blk_setCell_other w5 ⟨gj, j, none⟩ _ g (fun e => hgg e.symm))]; exact hc5))
          go_wp2
          go_roundw
          case rel => exact ⟨j + 1, by omega, by go_num, ⟨_, by have h9 := HS5 y; rw [setAt_tabF _ _ _ _ _ _ hlt] at h9; exact h9⟩, hC5.set (a := ⟨gj, j, none⟩) (show N < gj by omega) _, growSet (hgd.trans hg5) (a := ⟨gj, j, none⟩) hgjB _⟩
          case measure => simp [intOf]; omega
        · go_wp2
          go_roundw
          case rel => exact ⟨i + 1, by omega, by go_num, ⟨f, hf⟩, hCz, hgz⟩
          case measure => simp [intOf]; omega
    · obtain ⟨f, hf⟩ := hf
      go_wp2_with fail
      refine (l1Once w N l.length _ l _ hv rfl hCr 10 (by omega) (by omega)).mono ?_
      rintro e w5 ⟨o, rfl, hC5, hg5⟩
      have hf5 := (hf.grownN hg5 hlt2').mono (show w.heap.size ≤ w2.heap.size by omega)
      have hg := hgr.trans hg5
      clear hf hCr hgr hg5
      cases ho : decide (o = 0)
      · have hA := hkeep.out w5 hg
        have b5 := hC5.2.1
        obtain ⟨a1, c1, rfl⟩ := hf5.form
        go_wp2
        go_ret2
        exact ⟨_, _, a, _, rfl, hA, hf5, b5⟩
      · go_wp2_with fail
        refine (l4Bent w N l.length _ l _ hv rfl hC5).mono ?_
        rintro e w6 ⟨v6, m6, rfl, ho6, -, hC6, hg6⟩
        have hA := hkeep.out w6 (hg.trans hg6)
        have b6 := hC6.2.1
        have z5 := hC5.2.1.size
        obtain ⟨a6, c6, rfl⟩ := ho6.form
        go_wp2
        go_ret2
        exact ⟨_, _, a, m6, rfl, hA, ho6.mono z5, b6⟩
set_option maxRecDepth 10000 in
set_option maxHeartbeats 400000 in
theorem dMul (v : Value) (l : List UInt8) (w : World) (hv : BytesV w v l) :
    Calls Tryz.prog 6 #[v] w fun e w' => ∃ va vb a b, e = .returned (.tuple #[va, vb]) ∧ OwnMat 62 3 w.heap.size w' va a ∧ OwnMat 62 3 w.heap.size w' vb b ∧ Below w.heap.size w w' := by
  obtain ⟨av, cap, rfl, _, _⟩ := Row.open hv
  go_enter Tryz.func6, Tryz.ntmps6
  go_wp2_with fail
  refine (l4Two _ l _ hv).mono ?_
  rintro e w1 ⟨va, vb, a, b, rfl, ho1, ho2, hb⟩
  obtain ⟨a1, c1, rfl⟩ := ho1.form
  obtain ⟨a2, c2, rfl⟩ := ho2.form
  go_wp2
  go_ret2
  exact ⟨_, _, a, b, rfl, ho1, ho2, hb⟩
set_option maxRecDepth 10000 in
set_option maxHeartbeats 400000 in
theorem dPower (v : Value) (l : List UInt8) (w : World) (hv : BytesV w v l) :
    Calls Tryz.prog 9 #[v] w fun e w' => ∃ v' m x, e = .returned (.tuple #[v', .int .i64 x]) ∧ OwnMat 62 3 w.heap.size w' v' m ∧ -6 ≤ x ∧ x ≤ 31 ∧ Below w.heap.size w w' := by
  obtain ⟨a, cap, rfl, _, _⟩ := Row.open hv
  go_enter Tryz.func9, Tryz.ntmps9
  go_wp2_with fail
  refine (l1New _ l _ hv).mono ?_
  rintro e w1 ⟨N, rfl, hC, b1⟩
  have hlt := hC.lt
  go_wp2_with fail
  refine (l4Bent w N l.length _ l _ hv rfl hC).mono ?_
  rintro e w2 ⟨v2, m, rfl, ho, hS, hC2, _⟩
  go_wp2_with fail
  refine (l1Below w N l.length _ l _ hv rfl hC2 6 (by omega) (by omega)).mono ?_
  rintro e w3 ⟨c, rfl, hc, hC3, hg3⟩
  replace ho := ho.grownN hg3 hlt
  have hlt3 := hC3.lt
  go_wp2_with fail
  refine (pickI w N l.length _ l _ hv rfl hC3 [0, 0, 0, 0, 26, -6] 3 6 rfl (by omega) (by omega) 6).mono ?_
  rintro e w4 ⟨y, rfl, hy, hC4, hg4⟩
  replace ho := (ho.grownN hg4 hlt).mono b1.size
  have b4 := hC4.2.1
  have hy2 : -6 ≤ y ∧ y ≤ 26 := by
    simp only [List.mem_cons, List.not_mem_nil, or_false] at hy
    omega
  clear hy
  obtain ⟨a2, c2, rfl⟩ := ho.form
  go_wp2
  go_ret2
  exact ⟨_, m, _, rfl, ho, by omega, by omega, b4⟩
def mseps : List ByteArray := [⟨#[47]⟩, ⟨#[44]⟩, ⟨#[48]⟩, ⟨#[49]⟩, ⟨#[45]⟩, ⟨#[120]⟩]
theorem mseps_one : ∀ x ∈ mseps, x.size ≤ 4 := by
  intro x hx
  simp only [mseps, List.mem_cons, List.not_mem_nil, or_false] at hx
  rcases hx with rfl | rfl | rfl | rfl | rfl | rfl <;> decide
set_option maxRecDepth 10000 in
set_option maxHeartbeats 400000 in
theorem dParse (v : Value) (l : List UInt8) (w : World) (hv : BytesV w v l) :
    Calls Tryz.prog 12 #[v] w fun e w' => ∃ t : ByteArray, e = .returned (.string t) ∧ t.size ≤ 3000 ∧ Below w.heap.size w w' := by
  obtain ⟨a, cap, rfl, _, _⟩ := Row.open hv
  go_enter Tryz.func12, Tryz.ntmps12
  go_wp2_with fail
  refine (l1New _ l _ hv).mono ?_
  rintro e w1 ⟨N, rfl, hC, b1⟩
  have hlt := hC.lt
  go_wp2_with fail
  refine (l4Draw w N l.length _ l _ hv rfl hC 3 (by omega) (by omega)).mono ?_
  rintro e w2 ⟨v2, m, rfl, ho, hS, hC2, _⟩
  go_wp2_with fail
  refine (sMatrixText _ m _ ho.mat).mono ?_
  rintro e w3 ⟨rfl, hb3⟩
  have hC3 := hC2.keep hb3
  have hz := matT_size m
  obtain ⟨s, hs⟩ : ∃ s, matT m = s := ⟨_, rfl⟩
  rw [hs] at hz ⊢
  clear hs
  have hT := Lib.hid (l1Turned w N l.length _ l w3 hv rfl hC3 s s.size rfl (by omega) mseps 9 6 rfl (by omega) (by omega) mseps_one)
  go_wp2_with fail
  refine hT.out.mono ?_
  rintro e w4 ⟨t, rfl, ht, hC4, hg4⟩
  have b4 := hC4.2.1
  go_wp2
  go_ret
  exact ⟨t, rfl, by omega, b4⟩
end Go.Proofs.YtkohadoicebojaaGreatDoor
