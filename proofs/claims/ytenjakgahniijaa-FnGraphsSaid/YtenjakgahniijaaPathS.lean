/- Contracts of the reference's PathsOf, which fills paths by calling itself. No statement is proved here. -/
import Derived.Test.YtenjakgahniijaaPathM
import Derived.Test.YtenjakgahniijaaAppL
import Derived.Test.YtenjakgahniijaaApp2
import Derived.Deep.LoopGhost
namespace Go.Proofs.Ytenjakgahniijaa
open Go.RowKit Go.Deep
theorem grow_below' {w w' : World} (h : Below w.heap.size w w') (b : Option Nat) : w.grownBy w' b := ⟨h.os, h.tape, h.output, h.size, fun k hk _ => h.block k hk⟩
theorem grow_trans {w w1 w2 : World} {b b1 : Option Nat} (h : w.grownBy w1 b) (h2 : w1.grownBy w2 b1) (hb : b1 = b ∨ ∀ k, b1 = some k → w.heap.size ≤ k) : w.grownBy w2 b := by
  refine ⟨h2.os.trans h.os, h2.tape.trans h.tape, h2.output.trans h.output, Nat.le_trans h.size h2.size, fun k hk hne => (h2.block k (Nat.lt_of_lt_of_le hk h.size) fun e => ?_).trans (h.block k hk hne)⟩
  rcases hb with hb | hb
  · exact hne (e.trans hb)
  · have := hb k e.symm; omega
/-- Whether an arc fits behind a path, read off the ends. -/
theorem fits_nil (A : List (List Int)) (k : Nat) : fits A [] k = true := rfl
theorem fits_at {A : List (List Int)} {p : List Int} {s x k : Nat} (hp : p.length = s + 1) (hx : p[s]? = some (x : Int)) {y z : Int} (hy : ent A x 1 = y) (hz : ent A k 0 = z) : fits A p k = (y == z) := by
  have h0 : p.isEmpty = false := by cases p with | nil => simp at hp | cons _ _ => rfl
  unfold fits en
  rw [h0, Bool.false_or, hp, Nat.add_sub_cancel, getD_of_get hx, Int.toNat_natCast, hy, hz]
theorem ext_no {A : List (List Int)} {p : List Int} {k : Nat} (h : fits A p k = false) : ext A p (k + 1) = ext A p k := by rw [ext, h]; simp
theorem ext_yes {A : List (List Int)} {p : List Int} {k : Nat} (h : fits A p k = true) : ext A p (k + 1) = ext A p k ++ [p ++ [(k : Int)]] := by rw [ext, if_pos h]
theorem ext_flat_le {A : List (List Int)} {p : List Int} (f : List Int → List (List Int)) {k : Nat} : ∀ {j}, k ≤ j → ((ext A p k).flatMap f).length ≤ ((ext A p j).flatMap f).length := by
  intro j
  induction j with
  | zero => intro h; rw [show k = 0 by omega]; exact Nat.le_refl _
  | succ j ih =>
    intro h
    by_cases e : k = j + 1
    · rw [e]; exact Nat.le_refl _
    · have := ih (by omega)
      rw [ext, List.flatMap_append, List.length_append]; omega
/-- A path that may be gone on with. -/
structure Okp (A : List (List Int)) (n : Nat) (p : List Int) : Prop where
  prs : Prs A n
  idx : ∀ x ∈ p, 0 ≤ x ∧ x < A.length
theorem Okp.snoc {A : List (List Int)} {n k : Nat} {p : List Int} (h : Okp A n p) (hk : k < A.length) : Okp A n (p ++ [(k : Int)]) := by
  refine ⟨h.prs, fun x hx => ?_⟩
  rcases List.mem_append.1 hx with hx | hx
  · exact h.idx x hx
  · rw [List.mem_singleton] at hx; omega
/-- The first and the second number of an arc, in memory. -/
theorem arc_cells {w : World} {a : Option Addr} {N n k : Nat} {A : List (List Int)} (hp : Prs A n) (hL : A.length = N)
    (HC : ∀ i, i < N → ∃ b off u r, a = some ⟨b, off, none⟩ ∧ w.cell? ⟨b, off + i, none⟩ = some u ∧ Hid (A[i]? = some r) ∧ Ints w u r) (hk : k < N) :
    ∃ b off b' off' c x y, a = some ⟨b, off, none⟩ ∧ w.cell? ⟨b, off + k, none⟩ = some (.slice (some ⟨b', off', none⟩) 2 c) ∧ w.cell? ⟨b', off', none⟩ = some (.int .i64 x) ∧ w.cell? ⟨b', off' + 1, none⟩ = some (.int .i64 y) ∧ Hid (ent A k 0 = x) ∧ Hid (ent A k 1 = y) := by
  obtain ⟨b, off, u, r, ha, hc, HR, hu⟩ := HC k hk
  obtain ⟨x, y, _, _, hg, h0, h1⟩ := prs_get hp (show k < A.length by omega)
  have hr := HR.out
  rw [hg] at hr
  cases hr
  obtain ⟨a', n', c', rfl, HL', _, HC'⟩ := hu.open
  have hn2 : n' = 2 := HL'.out.symm
  subst hn2
  obtain ⟨b', off', x', rfl, hc0, HX⟩ := HC'.out 0 (by omega)
  obtain ⟨b2, off2, y', e2, hc1, HY⟩ := HC'.out 1 (by omega)
  cases e2
  obtain rfl : (x : Int) = x' := by have := HX.out; simpa using this
  obtain rfl : (y : Int) = y' := by have := HY.out; simpa using this
  exact ⟨b, off, b', off', c', x, y, ha, hc, by simpa using hc0, hc1, Lib.hid h0, Lib.hid h1⟩
set_option maxRecDepth 10000 in
set_option maxHeartbeats 1600000 in
theorem sFill (A : List (List Int)) (n N : Nat) (hN : N ≤ 6) (hA60 : A.length ≤ 60) (va : Value) (w0 : World) (hA : Mat w0 va A) : ∀ (r : Nat) (p : List Int) (P : List (List Int)) (vh vo : Value) (B : Nat) (w : World),
    p.length + r = N → Okp A n p → Below w0.heap.size w0 w → w0.heap.size ≤ B → B ≤ w.heap.size → Own 3 B w vh (ints p) → OwnMat 28 3 B w vo P →
    (r = 0 → ∃ C, B ≤ C ∧ C ≤ w.heap.size ∧ Own 3 C w vh (ints p) ∧ OwnMatH 28 3 B C w vo P) → P.length + (fil A r p).length ≤ 4000000 →
    Calls Try.prog 58 #[va, .int .i64 N, vh, vo] w fun e w' => ∃ v', e = .returned v' ∧ OwnMat 28 3 B w' v' (P ++ fil A r p) ∧ w.grownBy w' vo.ownBlock ∧ (v'.ownBlock = vo.ownBlock ∨ ∀ k, v'.ownBlock = some k → w.heap.size ≤ k) := by
  intro r
  induction r with
  | zero =>
    intro p P vh vo B w hpl _ _ _ _ _ _ hz hsz
    obtain ⟨C, hBC, hCw, hh, hH⟩ := hz rfl
    obtain ⟨ah, ch, rfl⟩ := hh.form (show (ints p).length = N by rw [ints_length]; omega)
    have hszP : P.length ≤ 4000000 := by omega
    have hown := hH.toM.own
    clear hz hsz
    go_enter Try.func58, Try.ntmps58
    go_wp2_with (at_builtin; refine appMb 24 28 3 Try.underlying24 Try.infoInts (by decide) hH hh hBC hCw ?h1 rfl _ _ rfl rfl rfl (by simp) ?_)
    case h1 => omega
    intro v' w' ho hg hsz2 hblk
    go_wp2
    go_ret
    exact ⟨v', rfl, ho, hg, hblk.imp id fun h k hk => by rw [h] at hk; cases hk; omega⟩
  | succ r ih =>
    intro p P vh vo B w hpl hok hb0 hB0 hBw hh hP _ hsz
    obtain ⟨np, hnp⟩ : ∃ np, p.length = np := ⟨_, rfl⟩
    have hnpN : np < N := by omega
    have hne : ((np : Int) == (N : Int)) = false := beq_eq_false_iff_ne.2 (by omega)
    obtain ⟨ah, ch, rfl⟩ := hh.form (show (ints p).length = np by rw [ints_length]; omega)
    obtain ⟨a, nA, ca, rfl, HL, _, HC⟩ := hA.open
    have HLA := HL.out
    have hnA : nA ≤ 60 := by omega
    have HPL := Lib.hid hpl
    have HNP := Lib.hid hnp
    have HOK := Lib.hid hok
    have HSZ := Lib.hid hsz
    have HIH := Lib.hid ih
    have hown := hP.own
    clear hpl hnp hok hsz ih HLA hA60
    go_enter Try.func58, Try.ntmps58
    go_wp2
    go_loopg [3, 9] nA (fun gk o i wr => ∃ k : Nat, k + gk = nA ∧ i = .int .i64 k ∧ OwnMat 28 3 B wr o (P ++ (ext A p k).flatMap (fil A r)) ∧ w.grownBy wr vo.ownBlock ∧ Hid (o.ownBlock = vo.ownBlock ∨ ∀ k, o.ownBlock = some k → w.heap.size ≤ k))
    case atStart => exact ⟨0, by omega, rfl, by simpa [ext] using hP, World.grownBy.refl _ _, Lib.hid (.inl rfl)⟩
    case round =>
      obtain ⟨k, hkk, rfl, ho, hg, HBK⟩ := hrel
      have hk : k ≤ nA := by omega
      have HKK := Lib.hid hkk; clear hkk
      have hgs := hg.size
      have hbw : Below w0.heap.size w0 wr := hb0.trans (grow_below hg (fun k hk => (hown k hk).1) hB0 (by omega))
      have hhr : Own 3 B wr (.slice ah np ch) (ints p) := by
        obtain ⟨vs, hv1, -⟩ := hP
        exact hh.grown hg (hh.other hv1 (by decide))
      by_cases hlt : k < nA
      · have hkA : k < A.length := by rw [HL.out]; exact hlt
        obtain ⟨b, off, b', off', c, x, y, rfl, hc0, hc1, hc2, HX, HY⟩ := arc_cells HOK.out.prs HL.out HC.out hlt
        have hk0 := cell_keep hbw hc0
        have hk1 := cell_keep hbw hc1
        have hk2 := cell_keep hbw hc2
        clear hc0 hc1 hc2
        have hstep : Below wr.heap.size wr (wr.alloc (.cells #[] 3)) := below_alloc _ _
        have hstepD : ∀ n, Below wr.heap.size wr ((wr.alloc (.cells #[] 3)).drewN n) := fun n => hstep.trans ((Drawn.one _ n).below _)
        have how : ∀ n, Own 3 wr.heap.size ((wr.alloc (.cells #[] 3)).drewN n) (.slice (some ⟨wr.heap.size, 0, none⟩) 0 0) [] := fun n => (Own.empty 3 wr).keep ((Drawn.one _ n).below _)
        have hrowD : ∀ n, Row ((wr.alloc (.cells #[] 3)).drewN n) (.slice ah np ch) (ints p) := fun n => hhr.row.keep (hstepD n)
        cases np with
        | zero =>
          have hp0 : p = [] := List.eq_nil_of_length_eq_zero HNP.out
          have HF : Hid (fits A p k = true) := Lib.hid (by rw [hp0]; rfl)
          clear hp0
          have HEQ : Hid (P ++ (ext A p (k + 1)).flatMap (fil A r) = (P ++ (ext A p k).flatMap (fil A r)) ++ fil A r (p ++ [(k : Int)])) := Lib.hid (by rw [ext_yes HF.out, List.flatMap_append]; simp)
          have HSZ2 : Hid ((P ++ (ext A p k).flatMap (fil A r)).length + (fil A r (p ++ [(k : Int)])).length ≤ 4000000) := Lib.hid (by
            have h9 := ext_flat_le (A := A) (p := p) (fil A r) (k := k + 1) (j := A.length) (by omega)
            have h8 := congrArg List.length HEQ.out
            have h7 : P.length + ((ext A p A.length).flatMap (fil A r)).length ≤ 4000000 := HSZ.out
            rw [List.length_append, List.length_append] at h8
            omega)
          go_wp2
          go_quiet (fail)
          go_wp2_with (at_builtin; refine appL 28 3 8 (.int .i64 0) Try.underlying28 Try.infoInt rfl (how _) (hrowD _) (ints_one p) ?h1 ?h2 (by simp) rfl _ _ rfl rfl rfl ?_)
          case h1 => rw [ints_length, HNP.out]; unfold maxLen; rw [List.length_nil]; omega
          case h2 => rw [ints_length, HNP.out]; rw [List.length_nil]; omega
          intro v1 w1 hv1 hg1
          have hb1 : Below wr.heap.size wr w1 := (hstepD _).trans ((how _).below hg1 (Nat.le_refl _) (by simp))
          obtain ⟨a1, c1, rfl⟩ := hv1.form rfl
          go_wp2_with (at_builtin; refine app1 28 3 8 (.int .i64 0) Try.underlying28 Try.infoInt rfl hv1 (.int .i64 k) rfl ?h3 ?h4 hb1.size rfl _ _ rfl rfl rfl (by simp) ?_)
          case h3 => rw [ints_length, HNP.out]; unfold maxLen; omega
          case h4 => rw [ints_length, HNP.out]; omega
          intro v2 w2 hv2 hg2 _
          have hb2 : Below wr.heap.size wr w2 := hb1.trans (hv1.below hg2 (Nat.le_refl _) hb1.size)
          have hv3 : Own 3 wr.heap.size w2 v2 (ints (p ++ [(k : Int)])) := by rw [ints_append]; exact hv2
          have hs2 := hb2.size
          go_wp2_with fail
          refine (HIH.out (p ++ [(k : Int)]) _ v2 _ B w2 (by rw [List.length_append]; have := HPL.out; simp; omega) (HOK.out.snoc hkA) (hbw.trans (hb2.mono (by have := hbw.size; omega))) hB0 (by omega) (hv3.mono (by omega)) (ho.keep hb2) (fun _ => ⟨wr.heap.size, by omega, hs2, hv3, ho.toH.keep hb2⟩) HSZ2.out).mono ?_
          rintro e w3 ⟨v4, rfl, ho3, hg3, hbk3⟩
          have hgf := grow_trans (grow_trans hg (grow_below' hb2 none) (.inr fun k hk => by cases hk)) hg3 HBK.out
          have HBK2 : Hid (v4.ownBlock = vo.ownBlock ∨ ∀ k, v4.ownBlock = some k → w.heap.size ≤ k) := Lib.hid (by
            rcases hbk3 with h9 | h9
            · rw [h9]; exact HBK.out
            · exact .inr fun k hk => by have := h9 k hk; omega)
          rw [← HEQ.out] at ho3
          clear hbk3
          go_wp2
          go_roundg (gk - 1)
          case rel => exact ⟨k + 1, by have := HKK.out; omega, by go_num, ho3, hgf, HBK2⟩
          case measure => have := HKK.out; omega
        | succ s =>
          obtain ⟨bh, oh, xq, hab, hch, hXQ⟩ : ∃ bh oh xq, ah = some ⟨bh, oh, none⟩ ∧ wr.cell? ⟨bh, oh + s, none⟩ = some (.int .i64 xq) ∧ Hid (p[s]? = some xq) := by
            obtain ⟨a9, n9, c9, e9, HL9, _, HC9⟩ := hhr.toInts.open
            simp only [Value.slice.injEq] at e9
            obtain ⟨e91, e92, -⟩ := e9
            obtain ⟨bh, oh, xq, h1, h2, h3⟩ := HC9.out s (by omega)
            exact ⟨bh, oh, xq, e91.trans h1, h2, h3⟩
          subst hab
          obtain ⟨X, hX1, hX2⟩ : ∃ X : Nat, xq = X ∧ X < nA := by
            have := HOK.out.idx xq (List.mem_of_getElem? hXQ.out)
            rw [HL.out] at this
            exact ⟨xq.toNat, by omega, by omega⟩
          subst hX1
          obtain ⟨b2, off2, b3, off3, c3, x3, y3, hab2, hd0, hd1, hd2, HX3, HY3⟩ := arc_cells HOK.out.prs HL.out HC.out hX2
          cases hab2
          have hl0 := cell_keep hbw hd0
          have hl1 := cell_keep hbw hd1
          have hl2 := cell_keep hbw hd2
          clear hd0 hd1 hd2
          have HFE := Lib.hid (fits_at (k := k) HNP.out hXQ.out HY3.out HX.out)
          have hnz : ((s : Int) + 1 == 0) = false := beq_eq_false_iff_ne.2 (by omega)
          cases he : (y3 == x)
          · have HE := Lib.hid he
            go_wp2
            go_quiet (fail)
            go_wp2
            go_roundg (gk - 1)
            case rel => exact ⟨k + 1, by have := HKK.out; omega, by go_num, by rw [ext_no (by rw [HFE.out]; exact HE.out)]; exact ho.keep ((Drawn.one _ _).below _), grow_trans hg (grow_below' ((Drawn.one _ _).below _) none) (.inr fun k hk => by cases hk), HBK⟩
            case measure => have := HKK.out; omega
          · have HE := Lib.hid he
            have HF : Hid (fits A p k = true) := Lib.hid (by rw [HFE.out]; exact HE.out)
            have HEQ : Hid (P ++ (ext A p (k + 1)).flatMap (fil A r) = (P ++ (ext A p k).flatMap (fil A r)) ++ fil A r (p ++ [(k : Int)])) := Lib.hid (by rw [ext_yes HF.out, List.flatMap_append]; simp)
            have HSZ2 : Hid ((P ++ (ext A p k).flatMap (fil A r)).length + (fil A r (p ++ [(k : Int)])).length ≤ 4000000) := Lib.hid (by
              have h9 := ext_flat_le (A := A) (p := p) (fil A r) (k := k + 1) (j := A.length) (by omega)
              have h8 := congrArg List.length HEQ.out
              have h7 : P.length + ((ext A p A.length).flatMap (fil A r)).length ≤ 4000000 := HSZ.out
              rw [List.length_append, List.length_append] at h8
              omega)
            go_wp2
            go_quiet (fail)
            go_wp2_with (at_builtin; refine appL 28 3 8 (.int .i64 0) Try.underlying28 Try.infoInt rfl (how _) (hrowD _) (ints_one p) ?h1 ?h2 (by simp) rfl _ _ rfl rfl rfl ?_)
            case h1 => rw [ints_length, HNP.out]; unfold maxLen; rw [List.length_nil]; omega
            case h2 => rw [ints_length, HNP.out]; rw [List.length_nil]; omega
            intro v1 w1 hv1 hg1
            have hb1 : Below wr.heap.size wr w1 := (hstepD _).trans ((how _).below hg1 (Nat.le_refl _) (by simp))
            obtain ⟨a1, c1, rfl⟩ := hv1.form rfl
            go_wp2_with (at_builtin; refine app1 28 3 8 (.int .i64 0) Try.underlying28 Try.infoInt rfl hv1 (.int .i64 k) rfl ?h3 ?h4 hb1.size rfl _ _ rfl rfl rfl (by simp) ?_)
            case h3 => rw [ints_length, HNP.out]; unfold maxLen; omega
            case h4 => rw [ints_length, HNP.out]; omega
            intro v2 w2 hv2 hg2 _
            have hb2 : Below wr.heap.size wr w2 := hb1.trans (hv1.below hg2 (Nat.le_refl _) hb1.size)
            have hv3 : Own 3 wr.heap.size w2 v2 (ints (p ++ [(k : Int)])) := by rw [ints_append]; exact hv2
            have hs2 := hb2.size
            go_wp2_with fail
            refine (HIH.out (p ++ [(k : Int)]) _ v2 _ B w2 (by rw [List.length_append]; have := HPL.out; simp; omega) (HOK.out.snoc hkA) (hbw.trans (hb2.mono (by have := hbw.size; omega))) hB0 (by omega) (hv3.mono (by omega)) (ho.keep hb2) (fun _ => ⟨wr.heap.size, by omega, hs2, hv3, ho.toH.keep hb2⟩) HSZ2.out).mono ?_
            rintro e w3 ⟨v4, rfl, ho3, hg3, hbk3⟩
            have hgf := grow_trans (grow_trans hg (grow_below' hb2 none) (.inr fun k hk => by cases hk)) hg3 HBK.out
            have HBK2 : Hid (v4.ownBlock = vo.ownBlock ∨ ∀ k, v4.ownBlock = some k → w.heap.size ≤ k) := Lib.hid (by
              rcases hbk3 with h9 | h9
              · rw [h9]; exact HBK.out
              · exact .inr fun k hk => by have := h9 k hk; omega)
            rw [← HEQ.out] at ho3
            clear hbk3
            go_wp2
            go_roundg (gk - 1)
            case rel => exact ⟨k + 1, by have := HKK.out; omega, by go_num, ho3, hgf, HBK2⟩
            case measure => have := HKK.out; omega
      · have e : k = nA := by omega
        subst e
        go_wp2
        go_ret
        exact ⟨_, rfl, by rw [← HL.out] at ho; exact ho, hg, HBK.out⟩
end Go.Proofs.Ytenjakgahniijaa
