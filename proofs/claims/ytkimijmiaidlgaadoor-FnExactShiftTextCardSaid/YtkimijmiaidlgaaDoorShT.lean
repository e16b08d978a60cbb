/- ShiftText, the program's (by the library's contracts) and the reference's. No statement is proved here. -/
import Derived.Test.YtkimijmiaidlgaaDoorMatT
import Derived.Test.YtkimijmiaidlgaaDoorShift
import Derived.Test.YtkimijmiaidlgaaDoorStepApp
import Derived.Test.YtkimijmiaidlgaaDoorAppL
import Derived.Deep.RegionLaw
import Derived.Deep.AppendLies
import Derived.Deep.RegionHeld3
namespace Go.Proofs.YtkimijmiaidlgaaDoor
open Go.RowKit Go.Deep
theorem run_append_zero' {P : Program} {w : World} {B : Nat} (t ty e : TypeId) (i : TypeInfo) (ht : P.underlying t = some (.slice e)) (hi : P.info? e = some i) {v : Value} {xs : List Value} (hown : Own e B w v xs) (A : Option Addr) (c : Nat) :
    (Builtin.append_ #[t, t] ty #[v, .slice A 0 c]).run P w = .ok v w := by
  cases A with
  | none => exact run_append_zero t ty e i ht hi hown c
  | some ad =>
    have hl : (loadCells ad 0).run P w = .ok #[] w := by simp [loadCells, loadCellsFrom]
    obtain ⟨_, ⟨rfl, _⟩ | ⟨g, cap, cur, rfl, _, _, hn, _⟩⟩ := hown
    · simp [Builtin.append_, run_underlying ht, sizeOf, typeInfo, hi, Builtin.lenOf, Builtin.firstCells, hl]
    · simp [Builtin.append_, run_underlying ht, sizeOf, typeInfo, hi, Builtin.lenOf, Builtin.firstCells, hn, storeCells, hl]
/-- 'append(s, u...)' inside a region that draws. -/
theorem appLs {P : Program} {W : World} {ops : Array Oper} {o : Oper} {a : Act} {K : Act → World → Prop} {Q : Exit → Act → World → Prop} {E : Prop} (t e : TypeId) (bytes : Nat) (z : Value) (ht : P.underlying t = some (.slice e))
    (hinfo : (P.info? e).map (fun i => (i.zero, i.size, i.bytes)) = some (some z, 1, bytes)) (hz : z.cells.size = 1) {B : Nat} {v : Value} {xs : List Value} (hown : Own e B W v xs) {u : Value} {ys : List Value} (hr : Row W u ys) (h1 : ∀ y ∈ ys, y.oneCell' = true)
    (hlen : xs.length + ys.length ≤ maxLen) (hbytes : (xs.length + ys.length) * bytes ≤ 140737488355328) (hB : B ≤ W.heap.size) (hgd : o.guard = none) (s x : Operand)
    (ho : o.op = .call { callee := .builtin .append, args := #[s, x], argTypes := #[t, t] }) (hs : a.eval s = v) (hx : a.eval x = u)
    (h : ∀ v' w', Own e B w' v' (xs ++ ys) → W.grownBy w' v.ownBlock → K (a.put o.dst v') w') :
    if Region.wanted o (yielded ops a.tmps) = true then Oper.wp P o a W K Q else E := by
  obtain ⟨i0, hi, h0, hs1, h2⟩ := info_parts hinfo
  by_cases hy : ys = []
  · subst hy
    obtain ⟨A, cap, rfl, hl, hm, hc⟩ := hr
    have hw : Region.wanted o (yielded ops a.tmps) = true := by simp [Region.wanted, hgd]
    rw [if_pos hw]
    have hrun := run_append_zero' (P := P) t o.type e i0 ht hi hown A cap
    unfold Oper.wp execOp
    simp only [ho, resolve, invoke, builtin, Sem.run_bind, Sem.run_pure, Result.andThen_ok, List.map_toArray, List.map_cons, List.map_nil, hs, hx, List.length_nil, hrun]
    exact h _ _ (by simpa using hown) (World.grownBy.refl _ _)
  · have hpos : 0 < ys.length := List.length_pos_iff.2 hy
    obtain ⟨A, cap, rfl, hl, hm, hc⟩ := hr
    obtain ⟨b, off, rfl, _⟩ := hc 0 hpos
    have hnews : ∀ j u', ys[j]? = some u' → W.cell? ((⟨b, off, none⟩ : Addr).add j) = some u' := by
      intro j u' hj
      obtain ⟨hj', e1⟩ := List.getElem?_eq_some_iff.1 hj
      obtain ⟨b', off', e2, hcell⟩ := hc j hj'
      cases e2
      rw [add_zero_at, hcell, e1]
    refine step_append_lies W hgd s x t ho B e i0 z 1 bytes ht hi h0 hs1 h2 hz (by decide) v xs.length xs hs hown ⟨b, off, none⟩ ys.length cap ys hx (by simp) hnews h1 hpos hlen hbytes hB _ rfl ?_
    intro g cap' w' hown' hg _ _
    refine h _ w' ?_ hg
    have : (xs ++ ys).length = xs.length + ys.length := by simp
    unfold Own
    rw [this]
    exact hown'
def shTexts (k : Int) (l : List ByteArray) : List ByteArray := fmtI k :: l
def shT (k : Int) (l : List ByteArray) : ByteArray := if isShift k l then joined (shTexts k l) ⟨#[32]⟩ else ByteArray.empty
theorem isShift_small {k : Int} {l : List ByteArray} (h : isShift k l = true) : l.length + totalS l ≤ 1000 := by
  unfold isShift at h
  simp only [Bool.and_eq_true, decide_eq_true_eq] at h
  obtain ⟨_, h8, hall⟩ := h
  have key : ∀ s ∈ l, s.size ≤ 3 := fun s hs => by
    obtain ⟨i, hi, e⟩ := List.getElem_of_mem hs
    have h1 := List.all_eq_true.1 hall i (List.mem_range.2 hi)
    unfold shAt at h1
    simp only [Bool.and_eq_true] at h1
    have h2 := inR_iff.1 h1.2.1
    rw [getD_of_get (show l[i]? = some s by rw [List.getElem?_eq_getElem hi, e])] at h2
    omega
  have := totalS_le key
  omega
theorem strs_one (l : List ByteArray) : ∀ y ∈ strs l, y.oneCell' = true := fun y hy => by
  obtain ⟨x, _, rfl⟩ := List.mem_map.1 hy
  rfl
theorem sh_total {k : Int} {l : List ByteArray} (hk : (fmtI k).size ≤ 21) (hl : l.length + totalS l ≤ 1000000) : (shTexts k l).length + totalS (shTexts k l) ≤ 1048576 := by
  have e : totalS (shTexts k l) = (fmtI k).size + totalS l := by simp [shTexts, totalS]
  rw [e]
  unfold shTexts
  rw [List.length_cons]; omega
set_option maxRecDepth 10000 in
set_option maxHeartbeats 400000 in
theorem sShiftText (k : Int) (v : Value) (l : List ByteArray) (w : World) (h : Strs w v l) (hz : ∀ s ∈ l, s.size ≤ 1048576) (hk0 : -9223372036854775808 ≤ k) (hk1 : k ≤ 9223372036854775807) :
    Calls Tryd.prog 6 #[.agg #[.int .i64 k, v]] w fun e w' => e = .returned (.string (shT k l)) ∧ Below w.heap.size w w' := by
  have HS := Lib.hid h
  obtain ⟨a, n, cap, rfl, HL, hn, -⟩ := h.open
  have hx : ∀ o, Below w.heap.size w (w.alloc o) := fun o => below_alloc w o
  have hI := Lib.hid (sIsShift k _ l (w.alloc (.cells #[.int .i64 k, .slice a n cap] 27)) (HS.out.keep (hx _)) hz)
  have c0 : (w.alloc (.cells #[.int .i64 k, .slice a n cap] 27)).cell? ⟨w.heap.size, 0, none⟩ = some (.int .i64 k) := by simp
  have c1 : (w.alloc (.cells #[.int .i64 k, .slice a n cap] 27)).cell? ⟨w.heap.size, 1, none⟩ = some (.slice a n cap) := by simp
  have z0 : (w.alloc (.cells #[.int .i64 k, .slice a n cap] 27)).heap.size = w.heap.size + 1 := by simp
  clear h hz
  cases hm : isShift k l
  · have HR : Hid (shT k l = ByteArray.empty) := Lib.hid (by unfold shT; rw [hm]; rfl)
    have HI := Lib.hid hm; clear hm
    go_enter Tryd.func6, Tryd.ntmps6
    go_wp2_with fail
    refine hI.out.mono ?_
    rintro e w2 ⟨rfl, hb2⟩
    rw [HI.out]
    have b2 := (hx _).trans (hb2.mono (show w.heap.size ≤ _ by omega))
    go_wp2
    go_ret
    exact ⟨ret_str HR.out.symm, b2⟩
  have HR : Hid (shT k l = joined (shTexts k l) ⟨#[32]⟩) := Lib.hid (by unfold shT; rw [hm]; rfl)
  have hF := fmtI_small hk0 hk1
  have hlt := isShift_small hm
  have HT := Lib.hid (sh_total (k := k) (l := l) hF (by omega))
  have HI := Lib.hid hm; clear hm
  obtain ⟨T, hT⟩ : ∃ T, fmtI k = T := ⟨_, rfl⟩
  have HX : Hid (shTexts k l = [T] ++ l) := Lib.hid (by unfold shTexts; rw [hT]; rfl)
  go_enter Tryd.func6, Tryd.ntmps6
  go_wp2_with fail
  refine hI.out.mono ?_
  rintro e w2 ⟨rfl, hb2⟩
  rw [HI.out]
  have b2 : Below w.heap.size w w2 := (hx _).trans (hb2.mono (show w.heap.size ≤ _ by omega))
  have q0 := cell_keep hb2 c0
  have q1 := cell_keep hb2 c1
  clear c0 c1 z0 hb2 hI
  have key : Hid (∀ w', Below w.heap.size w w' → Calls Tryd.prog 18 #[.int .i64 k] w' fun e w'' => e = .returned (.string T) ∧ Below w'.heap.size w' w'') := Lib.hid fun w' hb => by rw [← hT]; exact sFormatInt k w' (by omega) (by omega)
  clear hT
  have hn1 : n ≤ 1000000 := by have := HL.out; omega
  have b2d := b2.drew
  have q1d : w2.drew.cell? ⟨w.heap.size, 1, none⟩ = some (.slice a n cap) := by simpa using q1
  have e7 : strs [T] ++ strs l = strs (shTexts k l) := by rw [HX.out, strs_append]
  have HE := Lib.hid e7; clear e7
  have hl6 : (strs [T]).length + (strs l).length ≤ maxLen := by rw [strs_length, strs_length, HL.out]; unfold maxLen; simp; omega
  have hl7 : ((strs [T]).length + (strs l).length) * 16 ≤ 140737488355328 := by rw [strs_length, strs_length, HL.out]; simp; omega
  have HLA := Lib.hid hl6
  have HLB := Lib.hid hl7
  clear hl6 hl7
  go_wp2
  go_region_law (first
    | (go_simp; go_at_call 18; refine (key.out _ b2d).mono ?_; rintro e w6 ⟨rfl, hb6⟩; have b6 : Below w.heap.size w w6 := b2d.trans (hb6.mono b2d.size); have hA := below_alloc w6 (.cells #[.string T] 9); have r1 := cell_keep hb6 q1d; have r2 := cell_keep hA r1; have ho6 : Own 9 w6.heap.size (w6.alloc (.cells #[.string T] 9)) (.slice (some ⟨w6.heap.size, 0, none⟩) 1 1) (strs [T]) := World.ownsRow_lit w6 #[.string T] 1 (Nat.le_refl _) (by simp [maxLen]) rfl; have b6a : Below w.heap.size w (w6.alloc (.cells #[.string T] 9)) := b6.trans (hA.mono b6.size); have hr6 := Lib.hid (HS.out.keep b6a))
    | (refine appLs 22 9 16 (.string ByteArray.empty) Tryd.underlying22 Tryd.infoStr rfl ho6 hr6.out (strs_one _) HLA.out HLB.out hA.size (by rfl) _ _ (by rfl) (by rfl) (by rfl) ?_; intro v' w7 ho7 hg7; have b7 := b6a.trans (ho6.below hg7 b6.size (Nat.le_trans b6.size hA.size)); rw [HE.out] at ho7; have hj7 := Lib.hid (sJoin _ (shTexts k l) ⟨#[32]⟩ w7 ho7.row HT.out (by decide)); rw [← HR.out] at hj7; obtain ⟨aq, cq, rfl⟩ := ho7.form rfl)
    | (go_simp; go_at_call 17; refine hj7.out.mono ?_; rintro e w8 ⟨rfl, hb8⟩; have b8 := b7.trans (hb8.mono b7.size)))
  all_goals (go_wp2; go_ret; exact ⟨rfl, b8⟩)
set_option maxRecDepth 10000 in
set_option maxHeartbeats 400000 in
theorem iShiftText (k : Int) (v : Value) (l : List ByteArray) (w : World) (h : Strs w v l) (hz : ∀ s ∈ l, s.size ≤ 1048576) (hk0 : -9223372036854775808 ≤ k) (hk1 : k ≤ 9223372036854775807) (ht : Tb w) :
    Calls Tryd.prog 8 #[.agg #[.int .i64 k, v]] w fun e w' => e = .returned (.string (shT k l)) ∧ Below w.heap.size w w' := by
  have HS := Lib.hid h
  obtain ⟨a, n, cap, rfl, HL, hn, -⟩ := h.open
  have hx : ∀ o, Below w.heap.size w (w.alloc o) := fun o => below_alloc w o
  have hI := Lib.hid (iIsShift k _ l (w.alloc (.cells #[.int .i64 k, .slice a n cap] 27)) (HS.out.keep (hx _)) hz)
  have c0 : (w.alloc (.cells #[.int .i64 k, .slice a n cap] 27)).cell? ⟨w.heap.size, 0, none⟩ = some (.int .i64 k) := by simp
  have c1 : (w.alloc (.cells #[.int .i64 k, .slice a n cap] 27)).cell? ⟨w.heap.size, 1, none⟩ = some (.slice a n cap) := by simp
  have z0 : (w.alloc (.cells #[.int .i64 k, .slice a n cap] 27)).heap.size = w.heap.size + 1 := by simp
  clear h hz
  cases hm : isShift k l
  · have HR : Hid (shT k l = ByteArray.empty) := Lib.hid (by unfold shT; rw [hm]; rfl)
    have HI := Lib.hid hm; clear hm
    go_enter Tryd.func8, Tryd.ntmps8
    go_wp2_with fail
    refine hI.out.mono ?_
    rintro e w2 ⟨rfl, hb2⟩
    rw [HI.out]
    have b2 := (hx _).trans (hb2.mono (show w.heap.size ≤ _ by omega))
    go_wp2
    go_ret
    exact ⟨ret_str HR.out.symm, b2⟩
  have HR : Hid (shT k l = joined (shTexts k l) ⟨#[32]⟩) := Lib.hid (by unfold shT; rw [hm]; rfl)
  have hF := fmtI_small hk0 hk1
  have hlt := isShift_small hm
  have HT := Lib.hid (sh_total (k := k) (l := l) hF (by omega))
  have HI := Lib.hid hm; clear hm
  obtain ⟨T, hT⟩ : ∃ T, fmtI k = T := ⟨_, rfl⟩
  have HX : Hid (shTexts k l = [T] ++ l) := Lib.hid (by unfold shTexts; rw [hT]; rfl)
  go_enter Tryd.func8, Tryd.ntmps8
  go_wp2_with fail
  refine hI.out.mono ?_
  rintro e w2 ⟨rfl, hb2⟩
  rw [HI.out]
  have b2 : Below w.heap.size w w2 := (hx _).trans (hb2.mono (show w.heap.size ≤ _ by omega))
  have q0 := cell_keep hb2 c0
  have q1 := cell_keep hb2 c1
  clear c0 c1 z0 hb2 hI
  have key : Hid (∀ w', Below w.heap.size w w' → Calls Tryd.prog 22 #[.int .i64 k] w' fun e w'' => e = .returned (.string T) ∧ Below w'.heap.size w' w'') := Lib.hid fun w' hb => by rw [← hT]; exact iFormatInt k w' (by omega) (by omega) (ht.keep hb)
  clear hT
  have hn1 : n ≤ 1000000 := by have := HL.out; omega
  have b2d := b2.drew
  have q1d : w2.drew.cell? ⟨w.heap.size, 1, none⟩ = some (.slice a n cap) := by simpa using q1
  have e7 : strs [T] ++ strs l = strs (shTexts k l) := by rw [HX.out, strs_append]
  have HE := Lib.hid e7; clear e7
  have hl6 : (strs [T]).length + (strs l).length ≤ maxLen := by rw [strs_length, strs_length, HL.out]; unfold maxLen; simp; omega
  have hl7 : ((strs [T]).length + (strs l).length) * 16 ≤ 140737488355328 := by rw [strs_length, strs_length, HL.out]; simp; omega
  have HLA := Lib.hid hl6
  have HLB := Lib.hid hl7
  clear hl6 hl7
  go_wp2
  go_region_law (first
    | (go_simp; go_at_call 22; refine (key.out _ b2d).mono ?_; rintro e w6 ⟨rfl, hb6⟩; have b6 : Below w.heap.size w w6 := b2d.trans (hb6.mono b2d.size); have hA := below_alloc w6 (.cells #[.string T] 9); have r1 := cell_keep hb6 q1d; have r2 := cell_keep hA r1; have ho6 : Own 9 w6.heap.size (w6.alloc (.cells #[.string T] 9)) (.slice (some ⟨w6.heap.size, 0, none⟩) 1 1) (strs [T]) := World.ownsRow_lit w6 #[.string T] 1 (Nat.le_refl _) (by simp [maxLen]) rfl; have b6a : Below w.heap.size w (w6.alloc (.cells #[.string T] 9)) := b6.trans (hA.mono b6.size); have hr6 := Lib.hid (HS.out.keep b6a))
    | (refine appLs 22 9 16 (.string ByteArray.empty) Tryd.underlying22 Tryd.infoStr rfl ho6 hr6.out (strs_one _) HLA.out HLB.out hA.size (by rfl) _ _ (by rfl) (by rfl) (by rfl) ?_; intro v' w7 ho7 hg7; have b7 := b6a.trans (ho6.below hg7 b6.size (Nat.le_trans b6.size hA.size)); rw [HE.out] at ho7; have hj7 := Lib.hid (iStrJoin _ (shTexts k l) ⟨#[32]⟩ w7 ho7.row HT.out (by decide)); rw [← HR.out] at hj7; obtain ⟨aq, cq, rfl⟩ := ho7.form rfl)
    | (go_simp; go_at_call 21; refine hj7.out.mono ?_; rintro e w8 ⟨rfl, hb8⟩; have b8 := b7.trans (hb8.mono b7.size)))
  all_goals (go_wp2; go_ret; exact ⟨rfl, b8⟩)
end Go.Proofs.YtkimijmiaidlgaaDoor
