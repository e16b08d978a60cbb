/- Draws of matrices. No statement is proved here. -/
import Derived.Test.YtkohadoicebojaaGreatDoorDrawC
import Derived.Test.YtkohadoicebojaaGreatDoorParseS
import Derived.Test.YtkohadoicebojaaGreatDoorMatD
import Derived.Deep.RegionHeld3
namespace Go.Proofs.YtkohadoicebojaaGreatDoor
open Go.RowKit Go.Deep
def mlits : List ByteArray := [⟨#[49, 44, 49, 47, 49, 44, 48]⟩, ⟨#[50]⟩, ⟨#[49, 44, 49, 47, 49, 44, 49]⟩, ⟨#[48, 44, 49, 47, 49, 44, 48]⟩, ⟨#[48, 44, 49, 44, 48, 47, 48, 44, 48, 44, 49, 47, 49, 44, 49, 44, 48]⟩, ⟨#[49, 44, 49, 44, 48, 47, 48, 44, 49, 44, 49, 47, 49, 44, 48, 44, 49]⟩, ⟨#[49, 44, 48, 47, 49, 44, 49]⟩, ⟨#[48, 44, 49, 47, 48, 44, 48]⟩, ⟨#[51]⟩, ⟨#[49, 44, 50, 47, 49, 44, 48]⟩, ⟨#[48]⟩, ⟨#[48, 44, 50, 47, 49, 44, 48]⟩]
theorem fmt1 : fmtI 1 = ⟨#[49]⟩ := by
  unfold fmtI
  rw [show (1 : Int) = ((1 : Nat) : Int) from rfl, Lib.itoa_nonneg, Lib.decDigits_one (by omega)]; rfl
theorem fmt2 : fmtI 2 = ⟨#[50]⟩ := by
  unfold fmtI
  rw [show (2 : Int) = ((2 : Nat) : Int) from rfl, Lib.itoa_nonneg, Lib.decDigits_one (by omega)]; rfl
theorem fmt3 : fmtI 3 = ⟨#[51]⟩ := by
  unfold fmtI
  rw [show (3 : Int) = ((3 : Nat) : Int) from rfl, Lib.itoa_nonneg, Lib.decDigits_one (by omega)]; rfl
theorem mlit_ok : ∀ s ∈ mlits, ∃ m, isMat m = true ∧ rowsP s = m.map txts := by
  intro s hs
  simp only [mlits, List.mem_cons, List.not_mem_nil, or_false] at hs
  rcases hs with rfl | rfl | rfl | rfl | rfl | rfl | rfl | rfl | rfl | rfl | rfl | rfl
  · refine ⟨[[1,1], [1,0]], by decide, ?_⟩
    simp only [List.map_cons, List.map_nil, txts, fmtI_zero, fmt1]
    rfl
  · refine ⟨[[2]], by decide, ?_⟩
    simp only [List.map_cons, List.map_nil, txts, fmt2]
    rfl
  · refine ⟨[[1,1], [1,1]], by decide, ?_⟩
    simp only [List.map_cons, List.map_nil, txts, fmt1]
    rfl
  · refine ⟨[[0,1], [1,0]], by decide, ?_⟩
    simp only [List.map_cons, List.map_nil, txts, fmtI_zero, fmt1]
    rfl
  · refine ⟨[[0,1,0], [0,0,1], [1,1,0]], by decide, ?_⟩
    simp only [List.map_cons, List.map_nil, txts, fmtI_zero, fmt1]
    rfl
  · refine ⟨[[1,1,0], [0,1,1], [1,0,1]], by decide, ?_⟩
    simp only [List.map_cons, List.map_nil, txts, fmtI_zero, fmt1]
    rfl
  · refine ⟨[[1,0], [1,1]], by decide, ?_⟩
    simp only [List.map_cons, List.map_nil, txts, fmtI_zero, fmt1]
    rfl
  · refine ⟨[[0,1], [0,0]], by decide, ?_⟩
    simp only [List.map_cons, List.map_nil, txts, fmtI_zero, fmt1]
    rfl
  · refine ⟨[[3]], by decide, ?_⟩
    simp only [List.map_cons, List.map_nil, txts, fmt3]
    rfl
  · refine ⟨[[1,2], [1,0]], by decide, ?_⟩
    simp only [List.map_cons, List.map_nil, txts, fmtI_zero, fmt1, fmt2]
    rfl
  · refine ⟨[[0]], by decide, ?_⟩
    simp only [List.map_cons, List.map_nil, txts, fmtI_zero]
    rfl
  · refine ⟨[[0,2], [1,0]], by decide, ?_⟩
    simp only [List.map_cons, List.map_nil, txts, fmtI_zero, fmt1, fmt2]
    rfl
theorem mlit_small : ∀ s ∈ mlits, s.size ≤ 100 := by
  intro s hs
  simp only [mlits, List.mem_cons, List.not_mem_nil, or_false] at hs
  rcases hs with rfl | rfl | rfl | rfl | rfl | rfl | rfl | rfl | rfl | rfl | rfl | rfl <;> decide
/-- A small table whose first row begins with a number. -/
def SmallM (m : List (List Int)) : Prop := (∃ r x, m[0]? = some r ∧ r[0]? = some x) ∧ m.length ≤ 9 ∧ ∀ r ∈ m, r.length ≤ 9
theorem isMat_smallM {m : List (List Int)} (h : isMat m = true) : SmallM m := by
  have hl := isMat_len h
  obtain ⟨r, hr⟩ : ∃ r, m[0]? = some r := ⟨_, List.getElem?_eq_getElem (by omega)⟩
  have hrl := isMat_row h hr
  refine ⟨⟨r, _, hr, List.getElem?_eq_getElem (by omega)⟩, hl.2, fun r hr => ?_⟩
  obtain ⟨i, hi⟩ := List.getElem?_of_mem hr
  rw [isMat_row h hi]; exact hl.2
theorem tabF_smallM {n : Nat} (h1 : 1 ≤ n) (h : n ≤ 9) (f : Nat → Nat → Int) : SmallM (tabF n n f) := by
  refine ⟨⟨_, _, tabF_get (by omega), rowF_get (by omega)⟩, by rw [tabF_length]; exact h, fun r hr => ?_⟩
  obtain ⟨i, hi⟩ := List.getElem?_of_mem hr
  have hi2 := (List.getElem?_eq_some_iff.1 hi).1
  rw [tabF_length] at hi2
  rw [tabF_get hi2] at hi
  rw [← Option.some.inj hi, rowF_length]; exact h
theorem matR_lit {s : ByteArray} {m : List (List Int)} {b : Bool} (hs : s ∈ mlits) (h : MatR s m b) : SmallM m := by
  rcases h with ⟨_, _, h⟩ | ⟨_, _, h⟩
  · exact isMat_smallM h
  · obtain ⟨m', h1, h2⟩ := mlit_ok s hs
    exact (h m' h1 h2).elim
theorem growL {w w' : World} (h : Below w.heap.size w w') (b : Option Nat) : w.grownBy w' b := ⟨h.os, h.tape, h.output, h.size, fun k hk _ => h.block k hk⟩
theorem growSet {w w1 : World} {b : Option Nat} (h : w.grownBy w1 b) {a : Addr} (ha : w.heap.size ≤ a.block) (u : Value) : w.grownBy (w1.setCell a u) b :=
  ⟨h.os, h.tape, h.output, by simpa using h.size, fun k hk hne => by rw [blk_setCell_other w1 a u k (by omega)]; exact h.block k hk hne⟩
theorem growU0 {w w1 w2 : World} {b b1 : Option Nat} (h : w.grownBy w1 b) (h2 : w1.grownBy w2 b1) (hb : b1 = b ∨ ∀ k, b1 = some k → w.heap.size ≤ k) : w.grownBy w2 b := by
  refine ⟨h2.os.trans h.os, h2.tape.trans h.tape, h2.output.trans h.output, Nat.le_trans h.size h2.size, fun k hk hne => (h2.block k (Nat.lt_of_lt_of_le hk h.size) fun e => ?_).trans (h.block k hk hne)⟩
  rcases hb with hb | hb
  · exact hne (e.trans hb)
  · have := hb k e.symm; omega
theorem growU {w w1 w2 : World} {b b1 : Option Nat} (h : w.grownBy w1 b) (h2 : w1.grownBy w2 b1) (hb : ∀ k, b1 = some k → w.heap.size ≤ k) : w.grownBy w2 b := growU0 h h2 (.inr hb)
theorem Cur.set {w0 w : World} {N n : Nat} {v : Value} (h : Cur w0 N v n w) {a : Addr} (ha : N < a.block) (u : Value) : Cur w0 N v n (w.setCell a u) := by
  obtain ⟨h1, h2, i, k, h3, h4⟩ := h
  exact ⟨h1, h2.setCell (Nat.le_trans h1 (Nat.le_of_lt ha)) u, i, k, h3, h4.of_block (blk_setCell_other w a u N (by omega))⟩
theorem Cur.grown {w0 w w' : World} {N n : Nat} {v : Value} (h : Cur w0 N v n w) {b : Option Nat} (hg : w.grownBy w' b) (hb : ∀ k, b = some k → N < k) : Cur w0 N v n w' := by
  have hlt := h.lt
  obtain ⟨h1, h2, i, k, h3, h4⟩ := h
  refine ⟨h1, ⟨by rw [hg.os, h2.os], by rw [hg.tape, h2.tape], by rw [hg.output, h2.output], Nat.le_trans h2.size hg.size, fun j hj => ?_⟩, i, k, h3, h4.of_block (hg.block N hlt fun e => ?_)⟩
  · rw [hg.block j (Nat.lt_of_lt_of_le hj h2.size) fun e => by have := hb j e.symm; omega]; exact h2.block j hj
  · have := hb N e.symm; omega
theorem Own.grownN {e : TypeId} {B N : Nat} {w w' : World} {v : Value} {xs : List Value} (h : Own e B w v xs) (hg : w.grownBy w' (some N)) (hN : N < B) : Own e B w' v xs := by
  refine h.grown hg ?_
  cases e2 : v.ownBlock with
  | none => exact .inl rfl
  | some k => exact .inr fun e3 => by have := (h.lt k e2).1; have := Option.some.inj e3; omega
theorem OwnMat.grownN {tr ti : TypeId} {B N : Nat} {w w' : World} {v : Value} {m : List (List Int)} (h : OwnMat tr ti B w v m) (hg : w.grownBy w' (some N)) (hN : N < B) : OwnMat tr ti B w' v m := by
  obtain ⟨vs, h1, h2⟩ := h
  exact ⟨vs, h1.grownN hg hN, h2.1, fun i hi hi' => (h2.2.1 i hi hi').grownN hg hN, h2.2.2⟩
/-- A number of an owned table, in every world that leaves the table as it is. -/
theorem OwnMat.at3 {tr ti : TypeId} {B : Nat} {w : World} {v : Value} {m : List (List Int)} (h : OwnMat tr ti B w v m) (hne : ti ≠ tr) {i j : Nat} {r : List Int} {x : Int} (hr : m[i]? = some r) (hx : r[j]? = some x) :
    ∃ g cap gj capj, v = .slice (some ⟨g, 0, none⟩) m.length cap ∧ B ≤ g ∧ B ≤ gj ∧ g < w.heap.size ∧ gj ≠ g ∧ w.cell? ⟨g, i, none⟩ = some (.slice (some ⟨gj, 0, none⟩) r.length capj) ∧
      Hid (∀ w', w'.cell? ⟨g, i, none⟩ = some (.slice (some ⟨gj, 0, none⟩) r.length capj) → OwnMat tr ti B w' v m → w'.cell? ⟨gj, j, none⟩ = some (.int .i64 x) ∧ w'.frozen? ⟨gj, j, none⟩ = false ∧ ∀ y, OwnMat tr ti B (w'.setCell ⟨gj, j, none⟩ (.int .i64 y)) v (setAt m i j y)) := by
  have hown := h.own
  obtain ⟨g, cap, gj, capj, rfl, h1, h2, h3, h4, h5⟩ := h.at2 hne hr hx
  have hgg : gj ≠ g := fun e => by
    subst e
    obtain ⟨g2, cap2, u, hv2, hc2, hu2, _⟩ := h.toH.row hr
    simp only [Value.slice.injEq, Option.some.injEq, Addr.mk.injEq, and_true, true_and] at hv2
    obtain ⟨rfl, _⟩ := hv2
    rw [h1] at hc2
    obtain rfl := Option.some.inj hc2
    obtain ⟨vs, k1, _⟩ := id h
    obtain ⟨c1, e1⟩ := k1.cells rfl
    obtain ⟨c2, e2⟩ := hu2.cells rfl
    rw [e1] at e2
    simp only [Option.some.injEq, Obj.cells.injEq] at e2
    exact hne e2.2.1.symm
  refine ⟨g, cap, gj, capj, rfl, (hown g rfl).1, h4, (hown g rfl).2, hgg, h1, Lib.hid fun w' hc ho => ?_⟩
  obtain ⟨g', cap', gj', capj', e, k1, k2, k3, k4, k5⟩ := ho.at2 hne hr hx
  simp only [Value.slice.injEq, Option.some.injEq, Addr.mk.injEq, and_true, true_and] at e
  obtain ⟨rfl, rfl⟩ := e
  rw [hc] at k1
  simp only [Option.some.injEq, Value.slice.injEq, Addr.mk.injEq, and_true, true_and] at k1
  obtain ⟨rfl, rfl⟩ := k1
  exact ⟨k2, k3, k5.out⟩
set_option maxRecDepth 10000 in
set_option maxHeartbeats 800000 in
theorem l4Draw (w0 : World) (N n : Nat) (v : Value) (l : List UInt8) (w : World) (hv : BytesV w0 v l) (hl : l.length = n) (hC : Cur w0 N v n w) (most : Nat) (hm1 : 1 ≤ most) (hm : most ≤ 4) :
    Calls Tryz.prog 62 #[.pointer (some ⟨N, 0, none⟩), .int .i64 most] w fun e w' => ∃ v' m, e = .returned v' ∧ OwnMat 62 3 w.heap.size w' v' m ∧ SmallM m ∧ Cur w0 N v n w' ∧ w.grownBy w' (some N) := by
  have hlt0 := hC.lt
  go_enter Tryz.func62, Tryz.ntmps62
  go_wp2_with fail
  refine (l1Once w0 N n v l _ hv hl hC 3 (by omega) (by omega)).mono ?_
  rintro e w1 ⟨o, rfl, hC1, hg1⟩
  have z1 := hg1.size
  cases ho : decide (o = 0)
  · go_wp2_with fail
    refine (l1Below w0 N n v l _ hv hl hC1 most hm1 (by omega)).mono ?_
    rintro e w2 ⟨c, rfl, hc, hC2, hg2⟩
    obtain ⟨k, hk⟩ : ∃ k, 1 + c = k := ⟨_, rfl⟩
    have hk2 : 1 ≤ k := by omega
    have hk3 : k ≤ 4 := by omega
    have z2 := hg2.size
    go_wp2_with fail
    rw [show (1 : Int) + (c : Int) = (k : Int) by omega]
    refine (sZero k k _ (by omega) (by omega)).mono ?_
    rintro e w3 ⟨v3, rfl, ho3, hb3⟩
    have hC3 := hC2.keep hb3
    have hg3 := (hg1.trans hg2).trans (growL hb3 (some N))
    replace ho3 := ho3.mono (show w.heap.size ≤ w2.heap.size by omega)
    have hsm := Lib.hid (fun f => tabF_smallM hk2 (show k ≤ 9 by omega) f)
    have hf3 : ∃ f, OwnMat 62 3 w.heap.size w3 v3 (tabF k k f) := ⟨_, ho3⟩
    clear ho3 hC1 hC2 hg1 hg2 hb3 z1 z2 hc hk
    go_wp2
    go_loopw [9] (fun i wr => ∃ j : Nat, j ≤ k ∧ i = .int .i64 j ∧ (∃ f, OwnMat 62 3 w.heap.size wr v3 (tabF k k f)) ∧ Cur w0 N v n wr ∧ w.grownBy wr (some N)) (fun i _ => k - (intOf i).toNat)
    case atStart => exact ⟨0, Nat.zero_le _, rfl, hf3, hC3, hg3⟩
    case round =>
      clear hf3 hC3 hg3
      obtain ⟨i, hi, rfl, hf, hCr, hgr⟩ := hrel
      by_cases hlt : i < k
      · go_wp2
        go_loopw [10] (fun x wr => ∃ j : Nat, j ≤ k ∧ x = .int .i64 j ∧ (∃ f, OwnMat 62 3 w.heap.size wr v3 (tabF k k f)) ∧ Cur w0 N v n wr ∧ w.grownBy wr (some N)) (fun x _ => k - (intOf x).toNat)
        case atStart => exact ⟨0, Nat.zero_le _, rfl, hf, hCr, hgr⟩
        case round =>
          clear hf hCr hgr
          obtain ⟨j, hj, rfl, ⟨f, hf⟩, hCz, hgz⟩ := hrel
          by_cases hlt2 : j < k
          · obtain ⟨g, cg, gj, cj, rfl, hgB, hgjB, hgs, hgg, hc1, HST⟩ := hf.at3 (by decide) (tabF_get hlt) (rowF_get hlt2)
            rw [tabF_length, rowF_length] at *
            have hd : Below wr.heap.size wr wr.drew := (Below.refl _ _).drew
            have hCd := hCz.keep hd
            have hfd := hf.keep hd
            have hgd := hgz.trans (grow_drew wr 1 (some N))
            have hcd : wr.drew.cell? ⟨g, i, none⟩ = some (.slice (some ⟨gj, 0, none⟩) k cj) := cell_keep hd hc1
            have hcA : (wr.drew.alloc (.cells #[.int .i64 0, .int .i64 1, .int .i64 0, .int .i64 1, .int .i64 2] 3)).cell? ⟨g, i, none⟩ = some (.slice (some ⟨gj, 0, none⟩) k cj) := cell_keep (below_alloc _ _) hcd
            have hP := Lib.hid (pickI w0 N n v l wr.drew hv hl hCd [0, 1, 0, 1, 2] 3 5 rfl (by omega) (by omega) 5)
            have hgN : g ≠ N := by omega
            go_wp2
            go_region_held3 (fun w' => w'.cell? ⟨g, i, none⟩ = some (.slice (some ⟨gj, 0, none⟩) k cj))
              (first | assumption | go_keep)
              ((go_at_call 57; refine hP.out.mono ?_; rintro e w5 ⟨y, rfl, _, hC5, hg5⟩; have hc5 : w5.cell? ⟨g, i, none⟩ = some (.slice (some ⟨gj, 0, none⟩) k cj) := hg5.cell hcd (fun e => hgN (Option.some.inj e)); obtain ⟨hx5, hf5, HS5⟩ := HST.out w5 hc5 (hfd.grownN hg5 hlt0); have hc6 : (w5.setCell ⟨gj, j, none⟩ (.int .i64 y)).cell? ⟨g, i, none⟩ = some (.slice (some ⟨gj, 0, none⟩) k cj) := by rw [World.cell?_of_block (blk_setCell_other w5 ⟨gj, j, none⟩ _ g (fun e => hgg e.symm))]; exact hc5))
            go_wp2
            go_roundw
            case rel => exact ⟨j + 1, by omega, by go_num, ⟨_, by have h9 := HS5 y; rw [setAt_tabF _ _ _ _ _ _ hlt] at h9; exact h9⟩, hC5.set (a := ⟨gj, j, none⟩) (show N < gj by omega) _, growSet (hgd.trans hg5) (a := ⟨gj, j, none⟩) hgjB _⟩
            case measure => simp [intOf]; omega
          · go_wp2
            go_roundw
            case rel => exact ⟨i + 1, by omega, by go_num, ⟨f, hf⟩, hCz, hgz⟩
            case measure => simp [intOf]; omega
      · obtain ⟨f, hf⟩ := hf
        have hS := hsm.out f
        go_wp2
        go_ret
        exact ⟨_, _, rfl, hf, hS, hCr, hgr⟩
  · have hP := Lib.hid (pickS w0 N n v l w1 hv hl hC1 mlits 9 12 12 rfl (by omega) (by omega) (by omega) 12)
    go_wp2_with fail
    refine hP.out.mono ?_
    rintro e w2 ⟨s, rfl, hs, hC2, hg2⟩
    have hs2 := mlit_small s hs
    have HM := Lib.hid (fun m b (h : MatR s m b) => matR_lit hs h)
    clear hs hP
    go_wp2_with fail
    refine (sParseMatrix s _ (by omega)).mono ?_
    rintro e w3 ⟨v3, m, b, rfl, ho3, HR, hb3⟩
    have hS := HM.out m b HR.out
    have hC3 := hC2.keep hb3
    have z2 := hg2.size
    have hg3 := (hg1.trans hg2).trans (growL hb3 (some N))
    replace ho3 := ho3.mono (show w.heap.size ≤ w2.heap.size by omega)
    clear HM HR
    obtain ⟨a3, c3, rfl⟩ := ho3.form
    go_wp2
    go_ret
    exact ⟨_, m, rfl, ho3, hS, hC3, hg3⟩
def SmallB (m : List (List Int)) : Prop := m.length ≤ 10 ∧ ∀ r ∈ m, r.length ≤ 9
theorem SmallM.b {m : List (List Int)} (h : SmallM m) : SmallB m := ⟨Nat.le_succ_of_le h.2.1, h.2.2⟩
theorem smallB_set {m : List (List Int)} (h : SmallM m) (i j : Nat) (y : Int) : SmallB (setAt m i j y) := by
  refine ⟨by unfold setAt; rw [List.length_set]; exact Nat.le_succ_of_le h.2.1, fun r hr => ?_⟩
  unfold setAt at hr
  rcases List.mem_or_eq_of_mem_set hr with hr | rfl
  · exact h.2.2 r hr
  · rw [List.length_set]
    by_cases hi : i < m.length
    · rw [List.getD_eq_getElem?_getD, List.getElem?_eq_getElem hi]
      exact h.2.2 _ (List.getElem_mem hi)
    · rw [List.getD_eq_getElem?_getD, List.getElem?_eq_none (by omega)]
      exact Nat.zero_le _
theorem smallB_app {m : List (List Int)} (h : SmallM m) : SmallB (m ++ [[1]]) := by
  refine ⟨by have := h.2.1; simp; omega, fun r hr => ?_⟩
  rcases List.mem_append.1 hr with hr | hr
  · exact h.2.2 r hr
  · rw [List.mem_singleton.1 hr]; simp
theorem smallB_total {m : List (List Int)} (h : SmallB m) : m.length + total m ≤ 1000 := by
  have key : ∀ l : List (List Int), (∀ r ∈ l, r.length ≤ 9) → total l ≤ 9 * l.length := by
    intro l
    induction l with
    | nil => intro _; simp [total]
    | cons a l ih =>
      intro h
      have h1 := h a (List.mem_cons_self ..)
      have h2 := ih fun r hr => h r (List.mem_cons_of_mem _ hr)
      simp [total] at h2 ⊢
      omega
  have := key m h.2
  have := h.1
  omega
set_option maxRecDepth 10000 in
set_option maxHeartbeats 800000 in
theorem l4Bent (w0 : World) (N n : Nat) (v : Value) (l : List UInt8) (w : World) (hv : BytesV w0 v l) (hl : l.length = n) (hC : Cur w0 N v n w) :
    Calls Tryz.prog 55 #[.pointer (some ⟨N, 0, none⟩)] w fun e w' => ∃ v' m, e = .returned v' ∧ OwnMat 62 3 w.heap.size w' v' m ∧ SmallB m ∧ Cur w0 N v n w' ∧ w.grownBy w' (some N) := by
  have hlt0 := hC.lt
  go_enter Tryz.func55, Tryz.ntmps55
  go_wp2_with fail
  refine (l4Draw w0 N n v l _ hv hl hC 4 (by omega) (by omega)).mono ?_
  rintro e w1 ⟨v1, m, rfl, ho1, hS, hC1, hg1⟩
  have z1 := hg1.size
  go_wp2_with fail
  refine (l1Below w0 N n v l _ hv hl hC1 16 (by omega) (by omega)).mono ?_
  rintro e w2 ⟨d, rfl, hd, hC2, hg2⟩
  replace ho1 := ho1.grownN hg2 hlt0
  have z2 := hg2.size
  have hg := hg1.trans hg2
  have HS := Lib.hid hS
  clear hC1 hg1 hg2 hd
  by_cases d0 : d = 0
  · subst d0
    rw [show ((0 : Nat) : Int) = 0 from rfl]
    obtain ⟨⟨r, x, hr, hx⟩, -, -⟩ := hS
    obtain ⟨g, cg, gj, cj, rfl, hgB, hgjB, hgs, hgg, hc1, HST⟩ := ho1.at3 (by decide) hr hx
    have HX := Lib.hid hr
    have hm1 : 0 < m.length := (List.getElem?_eq_some_iff.1 hr).1
    have hr1 : 0 < r.length := (List.getElem?_eq_some_iff.1 hx).1
    have hdr : Below w2.heap.size w2 w2.drew := (Below.refl _ _).drew
    have hCd := hC2.keep hdr
    have hfd := ho1.keep hdr
    have hgd := hg.trans (grow_drew w2 1 (some N))
    have hcd : w2.drew.cell? ⟨g, 0, none⟩ = some (.slice (some ⟨gj, 0, none⟩) r.length cj) := cell_keep hdr hc1
    have hcA : (w2.drew.alloc (.cells #[.int .i64 (-1), .int .i64 1000000, .int .i64 1000001, .int .i64 9] 3)).cell? ⟨g, 0, none⟩ = some (.slice (some ⟨gj, 0, none⟩) r.length cj) := cell_keep (below_alloc _ _) hcd
    have hP := Lib.hid (pickI w0 N n v l w2.drew hv hl hCd [-1, 1000000, 1000001, 9] 3 4 rfl (by omega) (by omega) 4)
    have hgN : g ≠ N := by omega
    obtain ⟨mn, hmn⟩ : ∃ k, m.length = k := ⟨_, rfl⟩
    obtain ⟨rn, hrn⟩ : ∃ k, r.length = k := ⟨_, rfl⟩
    rw [hmn] at hm1 ⊢
    rw [hrn] at hr1 hc1 hcd hcA HST
    rw [hmn] at ho1 hfd HST
    clear hr hx
    go_wp2
    go_region_held3 (fun w' => w'.cell? ⟨g, 0, none⟩ = some (.slice (some ⟨gj, 0, none⟩) rn cj))
      (first | assumption | go_keep)
      ((go_at_call 57; refine hP.out.mono ?_; rintro e w5 ⟨y, rfl, _, hC5, hg5⟩; have hc5 : w5.cell? ⟨g, 0, none⟩ = some (.slice (some ⟨gj, 0, none⟩) rn cj) := hg5.cell hcd (fun e => hgN (Option.some.inj e)); obtain ⟨hx5, hf5, HS5⟩ := HST.out w5 hc5 (hfd.grownN hg5 hlt0); have hc6 : (w5.setCell ⟨gj, 0, none⟩ (.int .i64 y)).cell? ⟨g, 0, none⟩ = some (.slice (some ⟨gj, 0, none⟩) rn cj) := by rw [World.cell?_of_block (blk_setCell_other w5 ⟨gj, 0, none⟩ _ g (fun e => hgg e.symm))]; exact hc5))
    go_wp2
    go_ret
    exact ⟨_, _, rfl, HS5 y, smallB_set HS.out 0 0 y, hC5.set (a := ⟨gj, 0, none⟩) (show N < gj by omega) _, growSet (hgd.trans hg5) (a := ⟨gj, 0, none⟩) hgjB _⟩
  · have d1 : ((d : Int) == 0) = false := beq_eq_false_iff_ne.2 (by omega)
    by_cases d2 : d = 1
    · subst d2
      rw [show ((1 : Nat) : Int) = 1 from rfl]
      have hba := below_alloc w2 (.cells #[.int .i64 1] 3)
      have hH := (OwnMat.toH ho1).keep hba
      have hown := ho1.own
      have hu : Own 3 w2.heap.size (w2.alloc (.cells #[.int .i64 1] 3)) (.slice (some ⟨w2.heap.size, 0, none⟩) 1 1) (ints [1]) := World.ownsRow_lit w2 #[.int .i64 1] 1 (Nat.le_refl _) (by simp [maxLen]) rfl
      have hml : m.length ≤ 4000000 := by have := hS.2.1; omega
      obtain ⟨a1, c1, rfl⟩ := ho1.form
      obtain ⟨mn, hmn⟩ : ∃ k, m.length = k := ⟨_, rfl⟩
      rw [hmn] at hH hown ⊢
      clear ho1 hS
      go_wp2_with (at_builtin; refine appMb 24 62 3 Tryz.underlying24 Tryz.infoInts (by decide) hH hu (by omega) hba.size hml rfl _ _ rfl rfl rfl (by simp) ?_)
      intro q' w6 hq6 hg6 hsz6 hblk
      have hC6 := (hC2.keep hba).grown hg6 (fun k hk => by have := (hown k hk).1; omega)
      have hgr : w.grownBy w6 (some N) := growU (hg.trans (growA _ _ _)) hg6 (fun k hk => (hown k hk).1)
      go_wp2
      go_ret
      exact ⟨_, _, rfl, hq6, smallB_app HS.out, hC6, hgr⟩
    · have d3 : ((d : Int) == 1) = false := beq_eq_false_iff_ne.2 (by omega)
      obtain ⟨a1, c1, rfl⟩ := ho1.form
      go_wp2
      go_ret
      exact ⟨_, _, rfl, ho1, HS.out.b, hC2, hg⟩
end Go.Proofs.YtkohadoicebojaaGreatDoor
