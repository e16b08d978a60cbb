/- Contracts of PathsOf, the reference's and the program's. No statement is proved here. -/
import Derived.Test.YtenjakgahniijaaPathS
namespace Go.Proofs.Ytenjakgahniijaa
open Go.RowKit Go.Deep
def pathsB (m : List (List Int)) (x : Int) : Bool := isGr m && (inR x 1 6 && inR (countP m x) 0 500)
def pathsOf (m : List (List Int)) (x : Int) : List (List Int) := if pathsB m x = true then lev (arcs m) x.toNat else []
theorem pathsB_g {m : List (List Int)} {x : Int} (h : isGr m = false) : pathsB m x = false := by unfold pathsB; rw [h, Bool.false_and]
theorem pathsB_x {m : List (List Int)} {x : Int} (h : inR x 1 6 = false) : pathsB m x = false := by unfold pathsB; rw [h, Bool.false_and, Bool.and_false]
theorem pathsB_c {m : List (List Int)} {x : Int} (h : inR (countP m x) 0 500 = false) : pathsB m x = false := by unfold pathsB; rw [h, Bool.and_false, Bool.and_false]
theorem pathsB_yes {m : List (List Int)} {x : Int} (h1 : isGr m = true) (h2 : inR x 1 6 = true) (h3 : inR (countP m x) 0 500 = true) : pathsB m x = true := by unfold pathsB; rw [h1, h2, h3]; rfl
theorem pathsOf_no {m : List (List Int)} {x : Int} (h : pathsB m x = false) : pathsOf m x = [] := if_neg (by simp [h])
theorem pathsOf_yes {m : List (List Int)} {N : Nat} (h : pathsB m (N : Int) = true) : pathsOf m N = lev (arcs m) N := by unfold pathsOf; rw [if_pos h, Int.toNat_natCast]
theorem paths_many {m : List (List Int)} {N : Nat} (h1 : isGr m = true) (h2 : inR (N : Int) 1 6 = true) (h3 : inR (countP m N) 0 500 = true) : (lev (arcs m) N).length ≤ 500 := by
  have hx := inR_iff.1 h2
  have hc := inR_iff.1 h3
  obtain ⟨t, rfl⟩ : ∃ t, N = t + 1 := ⟨N - 1, by omega⟩
  have hm := (isGr_mat h1).1
  cases hp : powB m ((t + 1 : Nat) : Int)
  · rw [countP_no hp] at hc; omega
  · rw [countP_yes hp, powM_yes hp] at hc
    have hk : powOk m (t + 1) = true := by
      unfold powB at hp
      simp only [Bool.and_eq_true, Int.toNat_natCast] at hp
      exact hp.2.2
    have := lev_count hm hk
    omega
theorem pathsOf_size (m : List (List Int)) (x : Int) : (pathsOf m x).length + total (pathsOf m x) ≤ 4000000 := by
  cases h : pathsB m x
  · rw [pathsOf_no h]; decide
  · have h' := h
    unfold pathsB at h'
    simp only [Bool.and_eq_true] at h'
    obtain ⟨h1, h2, h3⟩ := h'
    have hx := inR_iff.1 h2
    obtain ⟨N, rfl⟩ : ∃ N : Nat, x = N := ⟨x.toNat, by omega⟩
    rw [pathsOf_yes h]
    have h4 := paths_many h1 h2 h3
    have h5 := total_const (l := lev (arcs m) N) (c := 6) fun r hr => by rw [lev_len hr]; omega
    omega
theorem lev_bd {A : List (List Int)} (hA : A.length ≤ 60) : ∀ t, t ≤ 5 → (lev A t).length ≤ 777600000 := by
  have step : ∀ t, (lev A (t + 1)).length ≤ (lev A t).length * 60 := fun t => flatMap_bd (fun p => by have := ext_bd A p A.length; unfold exts; omega) (lev A t)
  have h0 : (lev A 0).length = 1 := rfl
  have h1 : (lev A 1).length ≤ (lev A 0).length * 60 := step 0
  have h2 : (lev A 2).length ≤ (lev A 1).length * 60 := step 1
  have h3 : (lev A 3).length ≤ (lev A 2).length * 60 := step 2
  have h4 : (lev A 4).length ≤ (lev A 3).length * 60 := step 3
  have h5 : (lev A 5).length ≤ (lev A 4).length * 60 := step 4
  intro t ht
  match t, ht with
  | 0, _ => omega
  | 1, _ => omega
  | 2, _ => omega
  | 3, _ => omega
  | 4, _ => omega
  | 5, _ => omega
theorem lev_okp {m : List (List Int)} {t : Nat} {p : List Int} (hp : p ∈ lev (arcs m) t) : Okp (arcs m) m.length p := ⟨arcs_prs m, lev_idx hp⟩
set_option maxRecDepth 10000 in
set_option maxHeartbeats 400000 in
theorem sPathsOf (v : Value) (m : List (List Int)) (x : Int) (w : World) (h : Mat w v m) :
    Calls Try.prog 15 #[v, .int .i64 x] w fun e w' => ∃ v', e = .returned v' ∧ OwnMat 28 3 w.heap.size w' v' (pathsOf m x) ∧ Below w.heap.size w w' := by
  cases hg : isGr m
  · have HG := Lib.hid hg
    have HO := Lib.hid (pathsOf_no (pathsB_g (x := x) hg)); clear hg
    go_enter Try.func15, Try.ntmps15
    go_wp2_with (go_at_call 24; refine (sIsGraph _ m _ h).mono ?_; rintro e w2 ⟨rfl, rfl⟩; rw [HG.out])
    go_ret
    exact ⟨_, rfl, by rw [HO.out]; exact OwnMat.empty _ _ _, below_alloc _ _⟩
  cases hx : inR x 1 6
  · have HG := Lib.hid hg; clear hg
    have HO := Lib.hid (pathsOf_no (pathsB_x (m := m) hx))
    have HX := Lib.hid hx; clear hx
    go_enter Try.func15, Try.ntmps15
    go_wp2_with (first | (go_at_call 24; refine (sIsGraph _ m _ h).mono ?_; rintro e w2 ⟨rfl, rfl⟩; rw [HG.out]) | (go_at_call 57; refine (l1In _ _ _ _).mono ?_; rintro e w2 ⟨rfl, rfl⟩; rw [HX.out]))
    go_ret
    exact ⟨_, rfl, by rw [HO.out]; exact OwnMat.empty _ _ _, below_alloc _ _⟩
  have hb := inR_iff.1 hx
  obtain ⟨N, rfl⟩ : ∃ N : Nat, x = N := ⟨x.toNat, by omega⟩
  have hN6 : N ≤ 6 := by omega
  have hN1 : 1 ≤ N := by omega
  clear hb
  cases hc : inR (countP m N) 0 500
  · have HG := Lib.hid hg; clear hg
    have HX := Lib.hid hx; clear hx
    have HO := Lib.hid (pathsOf_no (pathsB_c hc))
    have HC := Lib.hid hc; clear hc
    go_enter Try.func15, Try.ntmps15
    go_wp2_with fail
    refine (sIsGraph _ m _ h).mono ?_
    rintro e w2 ⟨rfl, rfl⟩
    rw [HG.out]
    go_wp2_with fail
    refine (l1In _ _ _ _).mono ?_
    rintro e w2 ⟨rfl, rfl⟩
    rw [HX.out]
    go_wp2_with fail
    refine (sCountPaths _ m _ _ h).mono ?_
    rintro e w2 ⟨rfl, hb2⟩
    go_wp2_with fail
    refine (l1In _ _ _ _).mono ?_
    rintro e w3 ⟨rfl, rfl⟩
    rw [HC.out]
    go_wp2
    go_ret
    exact ⟨_, rfl, by rw [HO.out]; exact (OwnMat.empty _ _ _).mono hb2.size, hb2.alloc hb2.size _⟩
  have HO := Lib.hid (pathsOf_yes (pathsB_yes hg hx hc))
  have hmany := paths_many hg hx hc
  have h60 := (arcs_small hg).1
  have HG := Lib.hid hg; clear hg
  have HX := Lib.hid hx; clear hx
  have HC := Lib.hid hc; clear hc
  have HF := Lib.hid (fil_all (arcs m) N)
  go_enter Try.func15, Try.ntmps15
  go_wp2_with fail
  refine (sIsGraph _ m _ h).mono ?_
  rintro e w2 ⟨rfl, rfl⟩
  rw [HG.out]
  go_wp2_with fail
  refine (l1In _ _ _ _).mono ?_
  rintro e w2 ⟨rfl, rfl⟩
  rw [HX.out]
  go_wp2_with fail
  refine (sCountPaths _ m _ _ h).mono ?_
  rintro e w2 ⟨rfl, hb2⟩
  go_wp2_with fail
  refine (l1In _ _ _ _).mono ?_
  rintro e w3 ⟨rfl, rfl⟩
  rw [HC.out]
  go_wp2_with fail
  refine (sarcs _ m _ (h.keep hb2) HG.out).mono ?_
  rintro e w3 ⟨v3, rfl, ho3, hb3⟩
  have b3 := hb2.trans (hb3.mono hb2.size)
  have hA1 := below_alloc w3 (.cells #[] 28)
  have hq : ∀ o1 o2, Below w3.heap.size w3 ((w3.alloc o1).alloc o2) := fun o1 o2 => ((Below.refl _ w3).alloc (Nat.le_refl _) o1).alloc (by simp) o2
  have hh := (Own.empty 3 w3).keep (below_alloc (w3.alloc (.cells #[] 3)) (.cells #[] 28))
  have ho := (OwnMat.empty 28 3 (w3.alloc (.cells #[] 3))).mono (B' := w3.heap.size) (by simp)
  rw [World.size_alloc] at ho
  go_wp2_with fail
  refine (sFill (arcs m) m.length N hN6 h60 _ w3 ho3.mat N [] [] _ _ w3.heap.size _ (by simp) ⟨arcs_prs m, fun x hx => by cases hx⟩ (hq _ _) (Nat.le_refl _) (by simp; omega) hh ho (fun h0 => by omega) (by rw [HF.out]; simp; omega)).mono ?_
  rintro e w4 ⟨v4, rfl, ho4, hg4, -⟩
  rw [HF.out, List.nil_append] at ho4
  have b4 : Below w.heap.size w w4 := b3.trans (((hq (.cells #[] 3) (.cells #[] 28)).mono b3.size).trans (grow_below hg4 (fun k hk => by simp only [Value.ownBlock, Option.some.injEq] at hk; subst hk; exact (show w3.heap.size ≤ w3.heap.size + 1 by omega)) b3.size (by have := b3.size; simp; omega)))
  go_wp2
  go_ret
  exact ⟨_, rfl, by rw [HO.out]; exact ho4.mono b3.size, b4⟩
set_option maxRecDepth 10000 in
set_option maxHeartbeats 1600000 in
theorem iPathsOf (v : Value) (m : List (List Int)) (x : Int) (w : World) (h : Mat w v m) :
    Calls Try.prog 7 #[v, .int .i64 x] w fun e w' => ∃ v', e = .returned v' ∧ OwnMat 28 3 w.heap.size w' v' (pathsOf m x) ∧ Below w.heap.size w w' := by
  cases hg : isGr m
  · have HG := Lib.hid hg
    have HO := Lib.hid (pathsOf_no (pathsB_g (x := x) hg)); clear hg
    go_enter Try.func7, Try.ntmps7
    go_wp2_with (go_at_call 23; refine (iIsGraph _ m _ h).mono ?_; rintro e w2 ⟨rfl, rfl⟩; rw [HG.out])
    go_ret
    exact ⟨_, rfl, by rw [HO.out]; exact OwnMat.nil _ _ _ _, Below.refl _ _⟩
  cases hx : inR x 1 6
  · have HG := Lib.hid hg; clear hg
    have HO := Lib.hid (pathsOf_no (pathsB_x (m := m) hx))
    by_cases hx1 : x < 1
    · clear hx
      go_enter Try.func7, Try.ntmps7
      go_wp2_with (go_at_call 23; refine (iIsGraph _ m _ h).mono ?_; rintro e w2 ⟨rfl, rfl⟩; rw [HG.out])
      go_ret
      exact ⟨_, rfl, by rw [HO.out]; exact OwnMat.nil _ _ _ _, Below.refl _ _⟩
    · have hx6 : 6 < x := by have := inR_no.1 hx; omega
      clear hx
      go_enter Try.func7, Try.ntmps7
      go_wp2_with (go_at_call 23; refine (iIsGraph _ m _ h).mono ?_; rintro e w2 ⟨rfl, rfl⟩; rw [HG.out])
      go_ret
      exact ⟨_, rfl, by rw [HO.out]; exact OwnMat.nil _ _ _ _, Below.refl _ _⟩
  have hb := inR_iff.1 hx
  obtain ⟨N, rfl⟩ : ∃ N : Nat, x = N := ⟨x.toNat, by omega⟩
  have hN6 : N ≤ 6 := by omega
  have hN1 : 1 ≤ N := by omega
  clear hb
  cases hc : inR (countP m N) 0 500
  · have HG := Lib.hid hg; clear hg
    have HO := Lib.hid (pathsOf_no (pathsB_c hc))
    have hcb := inR_no.1 hc
    clear hx hc
    by_cases hc0 : countP m N < 0
    · go_enter Try.func7, Try.ntmps7
      go_wp2_with fail
      refine (iIsGraph _ m _ h).mono ?_
      rintro e w2 ⟨rfl, rfl⟩
      rw [HG.out]
      go_wp2_with fail
      refine (iCountPaths _ m _ _ h).mono ?_
      rintro e w2 ⟨rfl, hb2⟩
      go_wp2
      go_ret
      exact ⟨_, rfl, by rw [HO.out]; exact OwnMat.nil _ _ _ _, hb2⟩
    · have hc5 : 500 < countP m N := by omega
      go_enter Try.func7, Try.ntmps7
      go_wp2_with fail
      refine (iIsGraph _ m _ h).mono ?_
      rintro e w2 ⟨rfl, rfl⟩
      rw [HG.out]
      go_wp2_with fail
      refine (iCountPaths _ m _ _ h).mono ?_
      rintro e w2 ⟨rfl, hb2⟩
      go_wp2
      go_ret
      exact ⟨_, rfl, by rw [HO.out]; exact OwnMat.nil _ _ _ _, hb2⟩
  have HO := Lib.hid (pathsOf_yes (pathsB_yes hg hx hc))
  have hcb := inR_iff.1 hc
  have hc0 := hcb.1
  have hc5 := hcb.2
  have h60 := (arcs_small hg).1
  have HG := Lib.hid hg; clear hg hx hc hcb
  go_enter Try.func7, Try.ntmps7
  go_wp2_with fail
  refine (iIsGraph _ m _ h).mono ?_
  rintro e w2 ⟨rfl, rfl⟩
  rw [HG.out]
  go_wp2_with fail
  refine (iCountPaths _ m _ _ h).mono ?_
  rintro e w2 ⟨rfl, hb2⟩
  go_wp2_with fail
  refine (iarcs _ m _ (h.keep hb2) HG.out).mono ?_
  rintro e w3 ⟨v3, rfl, ho3, hb3⟩
  have b3 := hb2.trans (hb3.mono hb2.size)
  obtain ⟨A, hA⟩ : ∃ A, A = arcs m := ⟨_, rfl⟩
  rw [← hA] at ho3 h60
  have HOKP : Hid (∀ t p, p ∈ lev A t → Okp A m.length p) := Lib.hid (by rw [hA]; exact fun t p hp => lev_okp hp)
  rw [← hA] at HO
  clear hA hc0 hc5
  obtain ⟨va, nA, ca, rfl, HL, _, HC⟩ := ho3.mat.open
  have hnA : nA ≤ 60 := by have := HL.out; omega
  have HLB := Lib.hid (lev_bd h60)
  have hq : ∀ o1 o2, Below w3.heap.size w3 ((w3.alloc o1).alloc o2) := fun o1 o2 => ((Below.refl _ w3).alloc (Nat.le_refl _) o1).alloc (by simp) o2
  have hst : OwnMat 28 3 w3.heap.size ((w3.alloc (.cells #[] 3)).alloc (.cells #[.slice (some ⟨w3.heap.size, 0, none⟩) 0 0] 28)) (.slice (some ⟨w3.heap.size + 1, 0, none⟩) 1 1) (lev A 0) := by
    refine ⟨[.slice (some ⟨w3.heap.size, 0, none⟩) 0 0], ?_, rfl, ?_, List.pairwise_singleton _ _⟩
    · have h8 : Own 28 (w3.alloc (.cells #[] 3)).heap.size ((w3.alloc (.cells #[] 3)).alloc (.cells #[.slice (some ⟨w3.heap.size, 0, none⟩) 0 0] 28)) (.slice (some ⟨(w3.alloc (.cells #[] 3)).heap.size, 0, none⟩) 1 1) [.slice (some ⟨w3.heap.size, 0, none⟩) 0 0] := World.ownsRow_lit (w3.alloc (.cells #[] 3)) #[.slice (some ⟨w3.heap.size, 0, none⟩) 0 0] 1 (Nat.le_refl _) (by simp [maxLen]) rfl
      rw [World.size_alloc] at h8
      exact h8.mono (by omega)
    · intro i h1 h2
      have e : i = 0 := by simp at h1; omega
      subst e
      exact (Own.empty 3 w3).keep (below_alloc _ _)
  have hst0 := hst.mono b3.size
  have hbs := b3.trans ((hq (.cells #[] 3) (.cells #[.slice (some ⟨w3.heap.size, 0, none⟩) 0 0] 28)).mono b3.size)
  have hb30 := hq (.cells #[] 3) (.cells #[.slice (some ⟨w3.heap.size, 0, none⟩) 0 0] 28)
  clear hst hb2 hb3 ho3
  go_wp2
  go_loopw [7, 38] (fun q i wr => ∃ t : Nat, t ≤ N ∧ i = .int .i64 t ∧ OwnMat 28 3 w.heap.size wr q (lev A t) ∧ Below w.heap.size w wr ∧ Below w3.heap.size w3 wr) (fun _ i _ => N - (intOf i).toNat)
  case atStart => exact ⟨0, Nat.zero_le _, rfl, hst0, hbs, hb30⟩
  case round =>
    clear hst0 hbs hb30 hq
    obtain ⟨t, ht, rfl, hout, hb, hb4⟩ := hrel
    obtain ⟨wo, rfl⟩ : ∃ wo : World, wo = wr := ⟨_, rfl⟩
    have hs := hb.size
    have hs4 := hb4.size
    by_cases hltt : t < N
    · obtain ⟨vo, nl, co, rfl, HLo, _, HCo⟩ := hout.mat.open
      have hnl : nl ≤ 777600000 := by have := HLB.out t (by omega); have := HLo.out; omega
      go_wp2
      go_loopw [8, 43] (fun q j wq => ∃ i : Nat, i ≤ nl ∧ j = .int .i64 i ∧ OwnMat 28 3 wo.heap.size wq q (((lev A t).take i).flatMap (exts A)) ∧ Below wo.heap.size wo wq) (fun _ j _ => nl - (intOf j).toNat)
      case atStart => exact ⟨0, Nat.zero_le _, rfl, OwnMat.empty _ _ _, below_alloc _ _⟩
      case round =>
        obtain ⟨i, hi, rfl, hlo, hbq⟩ := hrel
        by_cases hlti : i < nl
        · obtain ⟨bo, oo, u, p, rfl, hco, HXP, hup⟩ := HCo.out i hlti
          have hco1 := cell_keep hbq hco
          have hpm := List.mem_of_getElem? HXP.out
          have HOK := Lib.hid (HOKP.out t p hpm)
          have HPT := Lib.hid (lev_len hpm)
          have HTF : Hid (((lev A t).take (i + 1)).flatMap (exts A) = ((lev A t).take i).flatMap (exts A) ++ exts A p) := Lib.hid (by rw [take_snoc HXP.out, List.flatMap_append]; simp)
          have HTL : Hid ((((lev A t).take i).flatMap (exts A)).length ≤ i * 60) := Lib.hid (by
            have h9 := flatMap_bd (f := exts A) (c := 60) (fun q => by have := ext_bd A q A.length; unfold exts; omega) ((lev A t).take i)
            have h8 : ((lev A t).take i).length ≤ i := List.length_take_le _ _
            omega)
          have hup0 := hup
          obtain ⟨vp, np, cp, rfl, HLp, _, HCp⟩ := hup.open
          obtain rfl : np = t := by have := HLp.out; have := HPT.out; omega
          clear hpm hup
          go_wp2
          go_loopg [8, 49] nA (fun gk q j wq => ∃ k : Nat, k + gk = nA ∧ j = .int .i64 k ∧ OwnMat 28 3 wo.heap.size wq q (((lev A np).take i).flatMap (exts A) ++ ext A p k) ∧ Below wo.heap.size wo wq)
          case atStart => exact ⟨0, by omega, rfl, by simpa [ext] using hlo, hbq⟩
          case round =>
            clear hlo hbq hco1
            obtain ⟨k, hkk, rfl, hlo, hbq⟩ := hrel
            obtain ⟨wq, rfl⟩ : ∃ wq : World, wq = wr := ⟨_, rfl⟩
            have hk : k ≤ nA := by omega
            have HKK := Lib.hid hkk; clear hkk
            have hsq := hbq.size
            by_cases hlt : k < nA
            · have hkA : k < A.length := by rw [HL.out]; exact hlt
              have b4q := hb4.trans (hbq.mono hs4)
              obtain ⟨b, off, b', off', c, x, y, rfl, hc0, hc1, hc2, HX, HY⟩ := arc_cells HOK.out.prs HL.out HC.out hlt
              have hk0 := cell_keep b4q hc0
              have hk1 := cell_keep b4q hc1
              clear hc0 hc1 hc2
              have hpD : ∀ n, Ints (wq.drewN n) (.slice vp np cp) p := fun n => (hup0.keep hbq).drewN n
              have HLEN : Hid ((((lev A np).take i).flatMap (exts A) ++ ext A p k).length ≤ 1000000000000) := Lib.hid (by rw [List.length_append]; have := HTL.out; have := ext_bd A p k; omega)
              by_cases hz : np = 0
              · subst hz
                have hp0 : p = [] := List.eq_nil_of_length_eq_zero HPT.out
                have HF : Hid (fits A p k = true) := Lib.hid (by rw [hp0]; rfl)
                clear hp0
                go_wp2
                go_quiet (fail)
                go_wp2_with fail
                refine (slClone _ p _ (hpD _) (by rw [HPT.out]; omega)).mono ?_
                rintro e w5 ⟨v5, rfl, ho5, hb5⟩
                have b5 : Below wq.heap.size wq w5 := ((Drawn.one wq _).below _).trans hb5
                obtain ⟨a5, c5, rfl⟩ := ho5.form (show (ints p).length = 0 by rw [ints_length]; exact HPT.out)
                go_wp2_with (at_builtin; refine app1 28 3 8 (.int .i64 0) Try.underlying28 Try.infoInt rfl ho5 (.int .i64 k) rfl ?h1 ?h2 hb5.size rfl _ _ rfl rfl rfl (by simp) ?_)
                case h1 => rw [ints_length, HPT.out]; unfold maxLen; omega
                case h2 => rw [ints_length, HPT.out]; omega
                intro v6 w6 hv6 hg6 _
                have b6 := b5.trans (ho5.below hg6 (Nat.le_refl _) hb5.size)
                have hv7 : Own 3 wq.heap.size w6 v6 (ints (p ++ [(k : Int)])) := by rw [ints_append]; exact hv6
                obtain ⟨a6, n6, c6, rfl⟩ := hv7.formI
                have hs6 := b6.size
                have HLN : Hid ((((lev A 0).take i).flatMap (exts A) ++ ext A p k).length ≤ 1000000000000) := HLEN
                go_wp2_with (at_builtin; refine appMw 24 28 3 Try.underlying24 Try.infoInts (by decide) (hlo.toH.keep b6) hv7 hsq hs6 HLN.out rfl _ _ rfl rfl rfl (by simp) ?_)
                intro v8 w8 ho8 hg8 _
                have hE := (ext_yes HF.out).symm
                rw [hE] at ho8
                clear hE
                have b8 := (hbq.trans (b6.mono hsq)).trans (grow_below hg8 (fun k hk => (hlo.own k hk).1) (Nat.le_refl _) (by omega))
                go_wp2
                go_roundg (gk - 1)
                case rel => exact ⟨k + 1, by have := HKK.out; omega, by go_num, ho8, b8⟩
                case measure => have := HKK.out; omega
              · obtain ⟨s, rfl⟩ : ∃ s, np = s + 1 := ⟨np - 1, by omega⟩
                obtain ⟨bh, oh, xq, rfl, hch, hXQ⟩ := HCp.out s (by omega)
                have hch1 := cell_keep hbq hch
                obtain ⟨X, hX1, hX2⟩ : ∃ X : Nat, xq = X ∧ X < nA := by
                  have := HOK.out.idx xq (List.mem_of_getElem? hXQ.out)
                  rw [HL.out] at this
                  exact ⟨xq.toNat, by omega, by omega⟩
                subst hX1
                obtain ⟨b2, off2, b3, off3, c3, x3, y3, hab2, hd0, hd1, hd2, HX3, HY3⟩ := arc_cells HOK.out.prs HL.out HC.out hX2
                cases hab2
                have hl0 := cell_keep b4q hd0
                have hl2 := cell_keep b4q hd2
                clear hd0 hd1 hd2 hch
                have HFE := Lib.hid (fits_at (k := k) HPT.out hXQ.out HY3.out HX.out)
                have hnz : ((s : Int) + 1 == 0) = false := beq_eq_false_iff_ne.2 (by omega)
                cases he : (y3 == x)
                · have HE := Lib.hid he
                  have HF : Hid (fits A p k = false) := Lib.hid (by rw [HFE.out]; exact HE.out)
                  go_wp2
                  go_quiet (fail)
                  go_wp2
                  go_roundg (gk - 1)
                  case rel => exact ⟨k + 1, by have := HKK.out; omega, by go_num, by rw [ext_no HF.out]; exact hlo.keep ((Drawn.one _ _).below _), hbq.trans ((Drawn.one _ _).below _)⟩
                  case measure => have := HKK.out; omega
                · have HE := Lib.hid he
                  have HF : Hid (fits A p k = true) := Lib.hid (by rw [HFE.out]; exact HE.out)
                  go_wp2
                  go_quiet (fail)
                  go_wp2_with fail
                  refine (slClone _ p _ (hpD _) (by rw [HPT.out]; omega)).mono ?_
                  rintro e w5 ⟨v5, rfl, ho5, hb5⟩
                  have b5 : Below wq.heap.size wq w5 := ((Drawn.one wq _).below _).trans hb5
                  obtain ⟨a5, c5, rfl⟩ := ho5.form (show (ints p).length = s + 1 by rw [ints_length]; exact HPT.out)
                  go_wp2_with (at_builtin; refine app1 28 3 8 (.int .i64 0) Try.underlying28 Try.infoInt rfl ho5 (.int .i64 k) rfl ?h1 ?h2 hb5.size rfl _ _ rfl rfl rfl (by simp) ?_)
                  case h1 => rw [ints_length, HPT.out]; unfold maxLen; omega
                  case h2 => rw [ints_length, HPT.out]; omega
                  intro v6 w6 hv6 hg6 _
                  have b6 := b5.trans (ho5.below hg6 (Nat.le_refl _) hb5.size)
                  have hv7 : Own 3 wq.heap.size w6 v6 (ints (p ++ [(k : Int)])) := by rw [ints_append]; exact hv6
                  obtain ⟨a6, n6, c6, rfl⟩ := hv7.formI
                  have hs6 := b6.size
                  have HLN : Hid ((((lev A (s + 1)).take i).flatMap (exts A) ++ ext A p k).length ≤ 1000000000000) := HLEN
                  go_wp2_with (at_builtin; refine appMw 24 28 3 Try.underlying24 Try.infoInts (by decide) (hlo.toH.keep b6) hv7 hsq hs6 HLN.out rfl _ _ rfl rfl rfl (by simp) ?_)
                  intro v8 w8 ho8 hg8 _
                  have hE := (ext_yes HF.out).symm
                  rw [hE] at ho8
                  clear hE
                  have b8 := (hbq.trans (b6.mono hsq)).trans (grow_below hg8 (fun k hk => (hlo.own k hk).1) (Nat.le_refl _) (by omega))
                  go_wp2
                  go_roundg (gk - 1)
                  case rel => exact ⟨k + 1, by have := HKK.out; omega, by go_num, ho8, b8⟩
                  case measure => have := HKK.out; omega
            · have e : k = nA := by omega
              subst e
              rw [← HL.out] at hlo
              have HE2 : Hid (((lev A np).take i).flatMap (exts A) ++ ext A p A.length = ((lev A np).take (i + 1)).flatMap (exts A)) := Lib.hid HTF.out.symm
              rw [HE2.out] at hlo
              go_wp2
              go_roundw
              case rel => exact ⟨i + 1, by omega, by go_num, hlo, hbq⟩
              case measure => simp [intOf]; omega
        · have e : i = nl := by omega
          subst e
          have HEN : Hid (((lev A t).take i).flatMap (exts A) = lev A (t + 1)) := Lib.hid (by rw [← HLo.out, List.take_length]; rfl)
          rw [HEN.out] at hlo
          go_wp2
          go_roundw
          case rel => exact ⟨t + 1, by omega, by go_num, hlo.mono hs, hb.trans (hbq.mono hs), hb4.trans (hbq.mono hs4)⟩
          case measure => simp [intOf]; omega
    · have e : t = N := by omega
      subst e
      go_wp2
      go_ret
      exact ⟨_, rfl, by rw [HO.out]; exact hout, hb⟩
end Go.Proofs.Ytenjakgahniijaa
