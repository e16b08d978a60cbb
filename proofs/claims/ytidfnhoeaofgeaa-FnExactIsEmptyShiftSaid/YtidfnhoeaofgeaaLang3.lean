/- The reference's rounds of elimination among the words of two letters. No statement is proved here. -/
import Derived.Test.YtidfnhoeaofgeaaLang2
import Derived.Deep.LoopGhost
namespace Go.Proofs.Ytidfnhoeaofgeaa
open Go.RowKit Go.Deep
set_option linter.unusedSimpArgs false
theorem stays_no {R : ByteArray → ByteArray → Bool} {l : List ByteArray} {x : ByteArray} (h : hasN R l x = false) : stays R l x = false := by unfold stays; rw [h, Bool.false_and]
theorem stays_eq {R : ByteArray → ByteArray → Bool} {l : List ByteArray} {x : ByteArray} {b : Bool} (h : hasN R l x = true) (h2 : hasF R l x = b) : stays R l x = b := by unfold stays; rw [h, h2, Bool.true_and]
theorem filT_step {p : ByteArray → Bool} {l : List ByteArray} {j : Nat} {x : ByteArray} {b : Bool} (h : l[j]? = some x) (hp : p x = b) : filT p l (j + 1) = filT p l j ++ (if b = true then [x] else []) := by
  cases b
  · rw [filT_no h hp]; simp
  · rw [filT_yes h hp]; simp
set_option maxRecDepth 10000 in
set_option maxHeartbeats 1600000 in
theorem sl3Pairs (k : Nat) (v : Value) (l : List ByteArray) (w : World) (h : Strs w v l) (hz : ∀ x ∈ l, x.size ≤ 1048576) (hk1 : 1 ≤ k) (hk : k ≤ 3) :
    Calls Try.prog 69 #[.agg #[.int .i64 k, v]] w fun e w' => ∃ v', e = .returned v' ∧ OwnS 9 w.heap.size w' v' (pairs k l) ∧ Below w.heap.size w w' := by
  have HZ := Lib.hid hz; clear hz
  have hb0 := below_alloc w (.cells #[.int .i64 k, v] 30)
  have c0 : (w.alloc (.cells #[.int .i64 k, v] 30)).cell? ⟨w.heap.size, 0, none⟩ = some (.int .i64 k) := by simp
  have c1 : (w.alloc (.cells #[.int .i64 k, v] 30)).cell? ⟨w.heap.size, 1, none⟩ = some v := by simp
  have z0 : (w.alloc (.cells #[.int .i64 k, v] 30)).heap.size = w.heap.size + 1 := by simp
  have n9 := pairs0_len (f := l) hk
  have HPZ : Hid (∀ t, ∀ x ∈ stpN (fol l) (pairs0 k l) t, x.size = 2) := Lib.hid fun t x hx => (pairs0_in (stpN_sub _ _ t x hx)).1
  have HPL : Hid (∀ t, (stpN (fol l) (pairs0 k l) t).length ≤ 9) := Lib.hid fun t => Nat.le_trans (stpN_len _ _ t) n9
  obtain ⟨av, nv, cv, rfl, -⟩ := h.open
  go_enter Try.func69, Try.ntmps69
  go_wp2_with fail
  refine (sl3Words k _ l 2 _ (h.keep hb0) HZ.out hk1 hk (by omega)).mono ?_
  rintro e w2 ⟨v2, rfl, ho2, hb2⟩
  have q0 := cell_keep hb2 c0
  have q1 := cell_keep hb2 c1
  have b2 := hb0.trans (hb2.mono hb0.size)
  have z2 := hb2.size
  rw [z0] at z2
  have hS2 : Own 9 (w.heap.size + 1) w2 v2 (strs (stpN (fol l) (pairs0 k l) 0)) := by rw [z0] at ho2; exact ho2
  clear hb0 c0 c1 z0 hb2 ho2
  go_wp2
  go_loopg [3] 10 (fun gk o wr => ∃ t, Own 9 (w.heap.size + 1) wr o (strs (stpN (fol l) (pairs0 k l) t)) ∧ Below (w.heap.size + 1) w2 wr ∧ Hid ((stpN (fol l) (pairs0 k l) t).length < gk))
  case atStart => exact ⟨0, hS2, Below.refl _ _, Lib.hid (by have := HPL.out 0; omega)⟩
  case round =>
    clear hS2
    obtain ⟨t, ho, hbl, hgk⟩ := hrel
    obtain ⟨wo, rfl⟩ : ∃ wo : World, wo = wr := ⟨_, rfl⟩
    have hz9 := HPL.out t
    have HO2 : Hid (∀ x ∈ stpN (fol l) (pairs0 k l) t, x.size = 2) := Lib.hid (HPZ.out t)
    have HCO : Hid ((stpW (fol l) (stpN (fol l) (pairs0 k l) t)).length = (stpN (fol l) (pairs0 k l) t).length → stpN (fol l) (pairs0 k l) t = pairs k l) := Lib.hid fun h => core_of h
    have HNX : Hid (stpN (fol l) (pairs0 k l) (t + 1) = stpW (fol l) (stpN (fol l) (pairs0 k l) t)) := Lib.hid rfl
    obtain ⟨O, hO⟩ : ∃ O, stpN (fol l) (pairs0 k l) t = O := ⟨_, rfl⟩
    rw [hO] at ho hgk hz9 HO2 HCO HNX
    clear hO
    obtain ⟨M, hM⟩ : ∃ M, O.length = M := ⟨_, rfl⟩
    rw [hM] at hz9
    have HM := Lib.hid hM; clear hM
    obtain ⟨ao, co, rfl⟩ := ho.form (show (strs O).length = M by rw [strs_length]; exact HM.out)
    have hs := hbl.size
    have hOS : Strs wo (.slice ao M co) O := ho.row
    obtain ⟨a3, n3, c3, hv3, -, hn3, HC⟩ := hOS.open
    cases hv3
    have r0 : wo.cell? ⟨w.heap.size, 0, none⟩ = some (.int .i64 k) := by rw [hbl.cell (p := ⟨w.heap.size, 0, none⟩) (by simp)]; exact q0
    have r1 : wo.cell? ⟨w.heap.size, 1, none⟩ = some (.slice av nv cv) := by rw [hbl.cell (p := ⟨w.heap.size, 1, none⟩) (by simp)]; exact q1
    have hlo : Strs wo (.slice av nv cv) l := h.keep (b2.trans (hbl.mono (by omega)))
    go_wp2
    go_loopw [4, 5] (fun q j wq => ∃ j' : Nat, j' ≤ M ∧ j = .int .i64 j' ∧ Own 9 wo.heap.size wq q (strs (filT (stays (fol l) O) O j')) ∧ Below wo.heap.size wo wq) (fun _ j _ => M - (intOf j).toNat)
    case atStart => exact ⟨0, Nat.zero_le _, rfl, by rw [filT_zero]; exact Own.empty _ _, below_alloc _ _⟩
    case round =>
      obtain ⟨j, hj, rfl, hq, hbq⟩ := hrel
      have hsq := hbq.size
      by_cases hltj : j < M
      · obtain ⟨b, off, x, rfl, hcx, HX⟩ := HC.out j hltj
        have HXS : Hid (x.size = 2) := Lib.hid (HO2.out x (List.mem_of_getElem? HX.out))
        have d0 := cell_keep hbq r0
        have d1 := cell_keep hbq r1
        have dx := cell_keep hbq hcx
        clear hcx
        have hlw : Strs wr.drew (.slice av nv cv) l := hlo.keep hbq.drew
        have hOw : Strs wr.drew (.slice (some ⟨b, off, none⟩) M co) O := hOS.keep hbq.drew
        have hqd : Own 9 wo.heap.size wr.drew _ (strs (filT (stays (fol l) O) O j)) := hq
        have hbqd : Below wo.heap.size wo wr.drew := hbq.drew
        have d0d : wr.drew.cell? ⟨w.heap.size, 0, none⟩ = some (.int .i64 k) := d0
        have d1d : wr.drew.cell? ⟨w.heap.size, 1, none⟩ = some (.slice av nv cv) := d1
        have dxd : wr.drew.cell? ⟨b, off + j, none⟩ = some (.string x) := dx
        have HFL := Lib.hid (filT_len (stays (fol l) O) O j)
        cases hA : hasN (fol l) O x
        · have HA := Lib.hid hA
          have HS := Lib.hid (filT_no HX.out (stays_no hA))
          clear hA
          go_wp2
          refine wp_region_held_drew (S := (fun w' => w'.cell? ⟨w.heap.size, 0, none⟩ = some (.int .i64 k) ∧ w'.cell? ⟨w.heap.size, 1, none⟩ = some (.slice av nv cv) ∧ w'.cell? ⟨b, off + j, none⟩ = some (.string x))) (by kernel_rfl) ⟨d0d, d1d, dxd⟩ (fun hHeld => ?_)
          refine wpAnyH_take (i := 0) (v := .agg #[.int .i64 k, .slice av nv cv]) rfl (by kernel_rfl) (by kernel_rfl) (by kernel_rfl) (fun _ _ _ h => h) (Or.inl ⟨by rfl, ?_⟩) hHeld ?_
          · (intro w hSw; (try dsimp only at hSw); go_simp)
          (try simp only [List.getElem_toArray, List.getElem_cons_zero, List.getElem_cons_succ, Act.put, List.setIfInBounds_toArray, List.set_cons_zero, List.set_cons_succ])
          refine wpAnyH_take (i := 1) (v := .slice (some ⟨b, off, none⟩) M co) rfl (by kernel_rfl) (by kernel_rfl) (by kernel_rfl) (fun _ _ _ h => h) (Or.inl ⟨by rfl, ?_⟩) hHeld ?_
          · (intro w hSw; (try dsimp only at hSw); go_simp)
          (try simp only [List.getElem_toArray, List.getElem_cons_zero, List.getElem_cons_succ, Act.put, List.setIfInBounds_toArray, List.set_cons_zero, List.set_cons_succ])
          refine wpAnyH_take (i := 2) (v := .slice (some ⟨b, off, none⟩) M co) rfl (by kernel_rfl) (by kernel_rfl) (by kernel_rfl) (fun _ _ _ h => h) (Or.inl ⟨by rfl, ?_⟩) hHeld ?_
          · (intro w hSw; (try dsimp only at hSw); go_simp)
          (try simp only [List.getElem_toArray, List.getElem_cons_zero, List.getElem_cons_succ, Act.put, List.setIfInBounds_toArray, List.set_cons_zero, List.set_cons_succ])
          refine wpAnyH_take (i := 3) (v := .int .i64 j) rfl (by kernel_rfl) (by kernel_rfl) (by kernel_rfl) (fun _ _ _ h => h) (Or.inl ⟨by rfl, ?_⟩) hHeld ?_
          · (intro w hSw; (try dsimp only at hSw); go_simp)
          (try simp only [List.getElem_toArray, List.getElem_cons_zero, List.getElem_cons_succ, Act.put, List.setIfInBounds_toArray, List.set_cons_zero, List.set_cons_succ])
          refine wpAnyH_take (i := 4) (v := .pointer (some ⟨b, off + j, none⟩)) rfl (by kernel_rfl) (by kernel_rfl) (by kernel_rfl) (fun _ _ _ h => h) (Or.inl ⟨by rfl, ?_⟩) hHeld ?_
          · (intro w hSw; (try dsimp only at hSw); go_simp)
          (try simp only [List.getElem_toArray, List.getElem_cons_zero, List.getElem_cons_succ, Act.put, List.setIfInBounds_toArray, List.set_cons_zero, List.set_cons_succ])
          refine wpAnyH_take (i := 5) (v := .string x) rfl (by kernel_rfl) (by kernel_rfl) (by kernel_rfl) (fun _ _ _ h => h) (Or.inl ⟨by rfl, ?_⟩) hHeld ?_
          · (intro w hSw; (try dsimp only at hSw); go_simp)
          (try simp only [List.getElem_toArray, List.getElem_cons_zero, List.getElem_cons_succ, Act.put, List.setIfInBounds_toArray, List.set_cons_zero, List.set_cons_succ])
          refine wpAnyH_ready (rs := [6]) (by kernel_rfl) (by simp) ?_
          refine AllReadyH.cons rfl (fun K hK => ?_) AllReadyH.nil
          go_simp
          (go_at_call 93; refine (sl3GoesT k _ l _ O x _ hlw HZ.out hOw HO2.out HXS.out).mono ?_; rintro e w3 ⟨rfl, hb3⟩; rw [HA.out]; have e0 := cell_keep (w := wr.drew) hb3 d0d; have e1 := cell_keep (w := wr.drew) hb3 d1d; have ex := cell_keep (w := wr.drew) hb3 dxd)
          go_wp2_with fail
          refine hK.out _ _ ⟨e0, e1, ex⟩ (fun hHeld2 => ?_)
          (try simp only [List.getElem_toArray, List.getElem_cons_zero, List.getElem_cons_succ, Act.put, List.setIfInBounds_toArray, List.set_cons_zero, List.set_cons_succ])
          refine wpAnyH_take (i := 7) (v := .bool false) rfl (by kernel_rfl) (by kernel_rfl) (by kernel_rfl) (fun _ _ _ h => h) (Or.inl ⟨by rfl, ?_⟩) hHeld2 ?_
          · (intro w hSw; (try dsimp only at hSw); go_simp)
          (try simp only [List.getElem_toArray, List.getElem_cons_zero, List.getElem_cons_succ, Act.put, List.setIfInBounds_toArray, List.set_cons_zero, List.set_cons_succ])
          refine wpAnyH_take (i := 8) (v := undef) rfl (by kernel_rfl) (by kernel_rfl) (by kernel_rfl) (fun _ _ _ h => h) (Or.inr ⟨by rfl, rfl⟩) hHeld2 ?_
          (try simp only [List.getElem_toArray, List.getElem_cons_zero, List.getElem_cons_succ, Act.put, List.setIfInBounds_toArray, List.set_cons_zero, List.set_cons_succ])
          refine wpAnyH_take (i := 9) (v := undef) rfl (by kernel_rfl) (by kernel_rfl) (by kernel_rfl) (fun _ _ _ h => h) (Or.inr ⟨by rfl, rfl⟩) hHeld2 ?_
          (try simp only [List.getElem_toArray, List.getElem_cons_zero, List.getElem_cons_succ, Act.put, List.setIfInBounds_toArray, List.set_cons_zero, List.set_cons_succ])
          refine wpAnyH_take (i := 10) (v := undef) rfl (by kernel_rfl) (by kernel_rfl) (by kernel_rfl) (fun _ _ _ h => h) (Or.inr ⟨by rfl, rfl⟩) hHeld2 ?_
          (try simp only [List.getElem_toArray, List.getElem_cons_zero, List.getElem_cons_succ, Act.put, List.setIfInBounds_toArray, List.set_cons_zero, List.set_cons_succ])
          refine wpAnyH_take (i := 11) (v := undef) rfl (by kernel_rfl) (by kernel_rfl) (by kernel_rfl) (fun _ _ _ h => h) (Or.inr ⟨by rfl, rfl⟩) hHeld2 ?_
          (try simp only [List.getElem_toArray, List.getElem_cons_zero, List.getElem_cons_succ, Act.put, List.setIfInBounds_toArray, List.set_cons_zero, List.set_cons_succ])
          refine wpAnyH_take (i := 12) (v := undef) rfl (by kernel_rfl) (by kernel_rfl) (by kernel_rfl) (fun _ _ _ h => h) (Or.inr ⟨by rfl, rfl⟩) hHeld2 ?_
          (try simp only [List.getElem_toArray, List.getElem_cons_zero, List.getElem_cons_succ, Act.put, List.setIfInBounds_toArray, List.set_cons_zero, List.set_cons_succ])
          refine wpAnyH_take (i := 13) (v := undef) rfl (by kernel_rfl) (by kernel_rfl) (by kernel_rfl) (fun _ _ _ h => h) (Or.inr ⟨by rfl, rfl⟩) hHeld2 ?_
          (try simp only [List.getElem_toArray, List.getElem_cons_zero, List.getElem_cons_succ, Act.put, List.setIfInBounds_toArray, List.set_cons_zero, List.set_cons_succ])
          refine wpAnyH_take (i := 14) (v := undef) rfl (by kernel_rfl) (by kernel_rfl) (by kernel_rfl) (fun _ _ _ h => h) (Or.inr ⟨by rfl, rfl⟩) hHeld2 ?_
          (try simp only [List.getElem_toArray, List.getElem_cons_zero, List.getElem_cons_succ, Act.put, List.setIfInBounds_toArray, List.set_cons_zero, List.set_cons_succ])
          refine wpAnyH_take (i := 15) (v := .bool false) rfl (by kernel_rfl) (by kernel_rfl) (by kernel_rfl) (fun _ _ _ h => h) (Or.inl ⟨by rfl, ?_⟩) hHeld2 ?_
          · (intro w hSw; (try dsimp only at hSw); go_simp)
          (try simp only [List.getElem_toArray, List.getElem_cons_zero, List.getElem_cons_succ, Act.put, List.setIfInBounds_toArray, List.set_cons_zero, List.set_cons_succ])
          refine wpAnyH_done (by kernel_rfl) ?_ _
          all_goals
            have hb4 := hbqd.trans (hb3.mono hbqd.size)
            have hq4 := hqd.keep hb3
            clear hb3 hqd hbqd d0 d1 dx d0d d1d dxd hlw hOw e0 e1 ex
            go_wp2
            go_roundw
            case rel => exact ⟨j + 1, by omega, by go_num, by rw [HS.out]; exact hq4, hb4⟩
            case measure => simp [intOf]; omega
        · obtain ⟨bb, hB⟩ : ∃ bb, hasF (fol l) O x = bb := ⟨_, rfl⟩
          have HA := Lib.hid hA
          have HB := Lib.hid hB
          have HS := Lib.hid (filT_step HX.out (stays_eq hA hB))
          clear hA hB
          go_wp2
          refine wp_region_held_drew (S := (fun w' => w'.cell? ⟨w.heap.size, 0, none⟩ = some (.int .i64 k) ∧ w'.cell? ⟨w.heap.size, 1, none⟩ = some (.slice av nv cv) ∧ w'.cell? ⟨b, off + j, none⟩ = some (.string x))) (by kernel_rfl) ⟨d0d, d1d, dxd⟩ (fun hHeld => ?_)
          refine wpAnyH_take (i := 0) (v := .agg #[.int .i64 k, .slice av nv cv]) rfl (by kernel_rfl) (by kernel_rfl) (by kernel_rfl) (fun _ _ _ h => h) (Or.inl ⟨by rfl, ?_⟩) hHeld ?_
          · (intro w hSw; (try dsimp only at hSw); go_simp)
          (try simp only [List.getElem_toArray, List.getElem_cons_zero, List.getElem_cons_succ, Act.put, List.setIfInBounds_toArray, List.set_cons_zero, List.set_cons_succ])
          refine wpAnyH_take (i := 1) (v := .slice (some ⟨b, off, none⟩) M co) rfl (by kernel_rfl) (by kernel_rfl) (by kernel_rfl) (fun _ _ _ h => h) (Or.inl ⟨by rfl, ?_⟩) hHeld ?_
          · (intro w hSw; (try dsimp only at hSw); go_simp)
          (try simp only [List.getElem_toArray, List.getElem_cons_zero, List.getElem_cons_succ, Act.put, List.setIfInBounds_toArray, List.set_cons_zero, List.set_cons_succ])
          refine wpAnyH_take (i := 2) (v := .slice (some ⟨b, off, none⟩) M co) rfl (by kernel_rfl) (by kernel_rfl) (by kernel_rfl) (fun _ _ _ h => h) (Or.inl ⟨by rfl, ?_⟩) hHeld ?_
          · (intro w hSw; (try dsimp only at hSw); go_simp)
          (try simp only [List.getElem_toArray, List.getElem_cons_zero, List.getElem_cons_succ, Act.put, List.setIfInBounds_toArray, List.set_cons_zero, List.set_cons_succ])
          refine wpAnyH_take (i := 3) (v := .int .i64 j) rfl (by kernel_rfl) (by kernel_rfl) (by kernel_rfl) (fun _ _ _ h => h) (Or.inl ⟨by rfl, ?_⟩) hHeld ?_
          · (intro w hSw; (try dsimp only at hSw); go_simp)
          (try simp only [List.getElem_toArray, List.getElem_cons_zero, List.getElem_cons_succ, Act.put, List.setIfInBounds_toArray, List.set_cons_zero, List.set_cons_succ])
          refine wpAnyH_take (i := 4) (v := .pointer (some ⟨b, off + j, none⟩)) rfl (by kernel_rfl) (by kernel_rfl) (by kernel_rfl) (fun _ _ _ h => h) (Or.inl ⟨by rfl, ?_⟩) hHeld ?_
          · (intro w hSw; (try dsimp only at hSw); go_simp)
          (try simp only [List.getElem_toArray, List.getElem_cons_zero, List.getElem_cons_succ, Act.put, List.setIfInBounds_toArray, List.set_cons_zero, List.set_cons_succ])
          refine wpAnyH_take (i := 5) (v := .string x) rfl (by kernel_rfl) (by kernel_rfl) (by kernel_rfl) (fun _ _ _ h => h) (Or.inl ⟨by rfl, ?_⟩) hHeld ?_
          · (intro w hSw; (try dsimp only at hSw); go_simp)
          (try simp only [List.getElem_toArray, List.getElem_cons_zero, List.getElem_cons_succ, Act.put, List.setIfInBounds_toArray, List.set_cons_zero, List.set_cons_succ])
          refine wpAnyH_ready (rs := [6]) (by kernel_rfl) (by simp) ?_
          refine AllReadyH.cons rfl (fun K hK => ?_) AllReadyH.nil
          go_simp
          (go_at_call 93; refine (sl3GoesT k _ l _ O x _ hlw HZ.out hOw HO2.out HXS.out).mono ?_; rintro e w3 ⟨rfl, hb3⟩; rw [HA.out]; have e0 := cell_keep (w := wr.drew) hb3 d0d; have e1 := cell_keep (w := wr.drew) hb3 d1d; have ex := cell_keep (w := wr.drew) hb3 dxd; have hl3 := Strs.keep hlw hb3; have hO3 := Strs.keep hOw hb3)
          go_wp2_with fail
          refine hK.out _ _ ⟨e0, e1, ex⟩ (fun hHeld2 => ?_)
          (try simp only [List.getElem_toArray, List.getElem_cons_zero, List.getElem_cons_succ, Act.put, List.setIfInBounds_toArray, List.set_cons_zero, List.set_cons_succ])
          refine wpAnyH_take (i := 7) (v := .bool true) rfl (by kernel_rfl) (by kernel_rfl) (by kernel_rfl) (fun _ _ _ h => h) (Or.inl ⟨by rfl, ?_⟩) hHeld2 ?_
          · (intro w hSw; (try dsimp only at hSw); go_simp)
          (try simp only [List.getElem_toArray, List.getElem_cons_zero, List.getElem_cons_succ, Act.put, List.setIfInBounds_toArray, List.set_cons_zero, List.set_cons_succ])
          refine wpAnyH_take (i := 8) (v := .agg #[.int .i64 k, .slice av nv cv]) rfl (by kernel_rfl) (by kernel_rfl) (by kernel_rfl) (fun _ _ _ h => h) (Or.inl ⟨by rfl, ?_⟩) hHeld2 ?_
          · (intro w hSw; (try dsimp only at hSw); go_simp)
          (try simp only [List.getElem_toArray, List.getElem_cons_zero, List.getElem_cons_succ, Act.put, List.setIfInBounds_toArray, List.set_cons_zero, List.set_cons_succ])
          refine wpAnyH_take (i := 9) (v := .slice (some ⟨b, off, none⟩) M co) rfl (by kernel_rfl) (by kernel_rfl) (by kernel_rfl) (fun _ _ _ h => h) (Or.inl ⟨by rfl, ?_⟩) hHeld2 ?_
          · (intro w hSw; (try dsimp only at hSw); go_simp)
          (try simp only [List.getElem_toArray, List.getElem_cons_zero, List.getElem_cons_succ, Act.put, List.setIfInBounds_toArray, List.set_cons_zero, List.set_cons_succ])
          refine wpAnyH_take (i := 10) (v := .slice (some ⟨b, off, none⟩) M co) rfl (by kernel_rfl) (by kernel_rfl) (by kernel_rfl) (fun _ _ _ h => h) (Or.inl ⟨by rfl, ?_⟩) hHeld2 ?_
          · (intro w hSw; (try dsimp only at hSw); go_simp)
          (try simp only [List.getElem_toArray, List.getElem_cons_zero, List.getElem_cons_succ, Act.put, List.setIfInBounds_toArray, List.set_cons_zero, List.set_cons_succ])
          refine wpAnyH_take (i := 11) (v := .int .i64 j) rfl (by kernel_rfl) (by kernel_rfl) (by kernel_rfl) (fun _ _ _ h => h) (Or.inl ⟨by rfl, ?_⟩) hHeld2 ?_
          · (intro w hSw; (try dsimp only at hSw); go_simp)
          (try simp only [List.getElem_toArray, List.getElem_cons_zero, List.getElem_cons_succ, Act.put, List.setIfInBounds_toArray, List.set_cons_zero, List.set_cons_succ])
          refine wpAnyH_take (i := 12) (v := .pointer (some ⟨b, off + j, none⟩)) rfl (by kernel_rfl) (by kernel_rfl) (by kernel_rfl) (fun _ _ _ h => h) (Or.inl ⟨by rfl, ?_⟩) hHeld2 ?_
          · (intro w hSw; (try dsimp only at hSw); go_simp)
          (try simp only [List.getElem_toArray, List.getElem_cons_zero, List.getElem_cons_succ, Act.put, List.setIfInBounds_toArray, List.set_cons_zero, List.set_cons_succ])
          refine wpAnyH_take (i := 13) (v := .string x) rfl (by kernel_rfl) (by kernel_rfl) (by kernel_rfl) (fun _ _ _ h => h) (Or.inl ⟨by rfl, ?_⟩) hHeld2 ?_
          · (intro w hSw; (try dsimp only at hSw); go_simp)
          (try simp only [List.getElem_toArray, List.getElem_cons_zero, List.getElem_cons_succ, Act.put, List.setIfInBounds_toArray, List.set_cons_zero, List.set_cons_succ])
          refine wpAnyH_ready (rs := [14]) (by kernel_rfl) (by simp) ?_
          refine AllReadyH.cons rfl (fun K hK => ?_) AllReadyH.nil
          go_simp
          (go_at_call 93; refine (sl3GoesF k _ l _ O x _ hl3 HZ.out hO3 HO2.out HXS.out).mono ?_; rintro e w4 ⟨rfl, hb4⟩; rw [HB.out]; have f0 := cell_keep hb4 e0; have f1 := cell_keep hb4 e1; have fx := cell_keep hb4 ex)
          go_wp2_with fail
          refine hK.out _ _ ⟨f0, f1, fx⟩ (fun hHeld3 => ?_)
          (try simp only [List.getElem_toArray, List.getElem_cons_zero, List.getElem_cons_succ, Act.put, List.setIfInBounds_toArray, List.set_cons_zero, List.set_cons_succ])
          refine wpAnyH_take (i := 15) (v := .bool bb) rfl (by kernel_rfl) (by kernel_rfl) (by kernel_rfl) (fun _ _ _ h => h) (Or.inl ⟨by rfl, ?_⟩) hHeld3 ?_
          · (intro w hSw; (try dsimp only at hSw); go_simp)
          (try simp only [List.getElem_toArray, List.getElem_cons_zero, List.getElem_cons_succ, Act.put, List.setIfInBounds_toArray, List.set_cons_zero, List.set_cons_succ])
          refine wpAnyH_done (by kernel_rfl) ?_ _
          all_goals
            have hb5 := (hbqd.trans (hb3.mono hbqd.size)).trans (hb4.mono (Nat.le_trans hbqd.size hb3.size))
            have hq5 := (hqd.keep hb3).keep hb4
            have hs5 := hb5.size
            clear hb3 hb4 hqd hbqd d0 d1 dx d0d d1d dxd hlw hOw e0 e1 ex hl3 hO3 f0 f1
            cases bb
            · go_wp2
              go_roundw
              case rel => exact ⟨j + 1, by omega, by go_num, by rw [HS.out]; simpa using hq5, hb5⟩
              case measure => simp [intOf]; omega
            · go_wp2_with (at_builtin; refine app1 25 9 16 (.string ByteArray.empty) Try.underlying25 Try.infoStr rfl hq5 (.string x) rfl ?h1 ?h2 hs5 rfl _ _ rfl rfl rfl (by simp) ?_)
              case h1 => rw [strs_length]; have := HFL.out; unfold maxLen; omega
              case h2 => rw [strs_length]; have := HFL.out; omega
              intro q' w5 hq6 hg _
              go_wp2
              go_roundw
              case rel => exact ⟨j + 1, by omega, by go_num, by rw [HS.out, if_pos trivial, strs_append]; exact hq6, hb5.trans (hq5.below hg (Nat.le_refl _) hs5)⟩
              case measure => simp [intOf]; omega
      · have HFA : Hid (filT (stays (fol l) O) O j = stpW (fol l) O) := Lib.hid (filT_all HM.out hltj)
        rw [HFA.out] at hq
        have HLE := Lib.hid (stp_le (fol l) O)
        obtain ⟨N, hN⟩ : ∃ N, (stpW (fol l) O).length = N := ⟨_, rfl⟩
        have HN := Lib.hid hN
        clear hN
        obtain ⟨aq, cq, hqf⟩ := hq.form (show (strs (stpW (fol l) O)).length = N by rw [strs_length]; exact HN.out)
        subst hqf
        have hNM : N ≤ M := by have := HLE.out; have h1 := HN.out; have h2 := HM.out; omega
        have hbf : Below (w.heap.size + 1) w2 wr := hbl.trans (hbq.mono (by omega))
        by_cases hnm : N = M
        · have HPO : Hid (O = pairs k l) := Lib.hid (HCO.out (by rw [HN.out, HM.out, hnm]))
          have hoq := ho.keep hbq
          subst hnm
          go_wp2
          go_ret
          exact ⟨_, rfl, by rw [← HPO.out]; exact hoq.mono (by omega), b2.trans (hbf.mono (by omega))⟩
        · have hne : ((N : Int) == (M : Int)) = false := beq_eq_false_iff_ne.2 (by omega)
          go_wp2
          go_roundg (N + 1)
          case measure => have := hgk.out; rw [HM.out] at this; omega
          case rel => exact ⟨t + 1, by rw [HNX.out]; exact hq.mono (by omega), hbf, Lib.hid (by rw [HNX.out, HN.out]; omega)⟩
end Go.Proofs.Ytidfnhoeaofgeaa
