/- Contracts of PrimitiveStep, the reference's and the program's. No statement is proved here. -/
import Derived.Test.YtenjakgahniijaaPrim
namespace Go.Proofs.Ytenjakgahniijaa
open Go.RowKit Go.Deep
theorem ctr_one : ctr 1 = 1 := by unfold ctr; unfold ctr; simp [wrap64]
/-- Whether some row holds a 0. -/
def zrow (r : List Int) : Bool := decide ((0 : Int) ∈ r)
theorem zrow_noZero (m : List (List Int)) : m.any zrow = !(m.all noZero) := by
  rw [Bool.eq_iff_iff]
  simp only [List.any_eq_true, Bool.not_eq_true', List.all_eq_false]
  constructor
  · rintro ⟨r, h1, h2⟩
    refine ⟨r, h1, ?_⟩
    intro h3
    unfold zrow at h2
    exact noZero_mem.1 h3 (of_decide_eq_true h2)
  · rintro ⟨r, h1, h2⟩
    refine ⟨r, h1, ?_⟩
    unfold zrow
    refine decide_eq_true (Classical.byContradiction fun h3 => h2 (noZero_mem.2 h3))
theorem all_full {f : Nat → Nat → Int} (hf : Bits f) (n : Nat) : (tabF n n f).all noZero = fullB f n := by
  rw [Bool.eq_iff_iff, fullB_iff, List.all_eq_true]
  constructor
  · intro h i j hi hj
    have h1 := h _ (List.mem_of_getElem? (tabF_get hi))
    rcases hf i j with e | e
    · exact absurd (by rw [← e]; exact List.mem_of_getElem? (rowF_get hj)) (noZero_mem.1 h1)
    · exact e
  · intro h r hr
    obtain ⟨i, hi, rfl⟩ := List.mem_map.1 hr
    rw [List.mem_range] at hi
    refine noZero_mem.2 fun h0 => ?_
    obtain ⟨j, hj, e⟩ := List.mem_map.1 h0
    rw [List.mem_range] at hj
    rw [h i j hi hj] at e
    cases e
theorem any_take_no {m : List (List Int)} {j : Nat} {r : List Int} (h : m[j]? = some r) (ht : (m.take j).any zrow = false) (hr : zrow r = false) : (m.take (j + 1)).any zrow = false := by
  rw [take_snoc h, List.any_append, ht]; simp [hr]
theorem any_yes {m : List (List Int)} {j : Nat} {r : List Int} (h : m[j]? = some r) (hr : zrow r = true) : m.any zrow = true := List.any_eq_true.2 ⟨r, List.mem_of_getElem? h, hr⟩
set_option maxRecDepth 10000 in
set_option maxHeartbeats 400000 in
theorem iClos (v : Value) (l : List Int) (w : World) (h : Ints w v l) :
    Calls Try.prog 71 #[v] w fun e w' => e = .returned (.bool (zrow l)) ∧ w = w' := by
  go_enter Try.func71, Try.ntmps71
  go_wp2_with fail
  refine (slContains v l 0 _ h).mono ?_
  rintro e w' ⟨rfl, rfl⟩
  go_wp2
  go_ret
  exact ⟨rfl, rfl⟩
def IdxF (m : List (List Int)) (e : Ending) : Prop := ∃ r : Int, e = .returned (.int .i64 r) ∧ -1 ≤ r ∧ r ≤ 9223372036854775807 ∧ Hid ((0 ≤ r ∧ m.any zrow = true) ∨ (r < 0 ∧ m.any zrow = false))
set_option maxRecDepth 10000 in
set_option maxHeartbeats 400000 in
theorem slIndexF (v : Value) (m : List (List Int)) (w : World) (h : Mat w v m) :
    Calls Try.prog 85 #[v, .func (.func 71) #[] #[]] w fun e w' => IdxF m e ∧ w = w' := by
  obtain ⟨a, n, cap, rfl, HL, hn, HC⟩ := h.open
  clear h
  go_enter Try.func85, Try.ntmps85
  go_wp2
  go_loop [8] (fun i => ∃ j : Nat, j ≤ n ∧ i = .int .i64 j ∧ Hid ((m.take j).any zrow = false)) (fun i => n - (intOf i).toNat)
  case atStart => exact ⟨0, Nat.zero_le _, rfl, Lib.hid (by simp)⟩
  case round =>
    obtain ⟨j, hj, rfl, HT⟩ := hrel
    by_cases hlt : j < n
    · obtain ⟨b, off, u, r, rfl, hc, HX, hu⟩ := HC.out j hlt
      cases hz : zrow r
      · have HZ := Lib.hid hz; clear hz
        go_wp2_with (go_at_call 71; refine (iClos u r _ hu).mono ?_; rintro e w2 ⟨rfl, rfl⟩; rw [HZ.out])
        go_round
        case rel => exact ⟨j + 1, by omega, by go_num, Lib.hid (any_take_no HX.out HT.out HZ.out)⟩
        case measure => simp [intOf]; omega
      · have HZ := Lib.hid hz; clear hz
        go_wp2_with (go_at_call 71; refine (iClos u r _ hu).mono ?_; rintro e w2 ⟨rfl, rfl⟩; rw [HZ.out])
        go_ret
        exact ⟨⟨_, rfl, by omega, by omega, Lib.hid (.inl ⟨by omega, any_yes HX.out HZ.out⟩)⟩, rfl⟩
    · go_wp2
      go_ret
      exact ⟨⟨_, rfl, by omega, by omega, Lib.hid (.inr ⟨by omega, by have := HT.out; rwa [List.take_of_length_le (by rw [HL.out]; omega)] at this⟩)⟩, rfl⟩
set_option maxRecDepth 10000 in
set_option maxHeartbeats 400000 in
theorem slContainsF (v : Value) (m : List (List Int)) (w : World) (h : Mat w v m) :
    Calls Try.prog 70 #[v, .func (.func 71) #[] #[]] w fun e w' => e = .returned (.bool (m.any zrow)) ∧ w = w' := by
  go_enter Try.func70, Try.ntmps70
  go_wp2_with fail
  refine (slIndexF v m _ h).mono ?_
  rintro e w' ⟨⟨r, rfl, hr1, hr2, HR⟩, rfl⟩
  go_wp2
  go_ret
  refine ⟨ret_bool ?_, rfl⟩
  rcases HR.out with ⟨h1, h2⟩ | ⟨h1, h2⟩
  · rw [h2]; simp [h1]
  · rw [h2]; simp [h1]
set_option maxRecDepth 10000 in
set_option maxHeartbeats 800000 in
theorem sPrimitiveStep (v : Value) (m : List (List Int)) (w : World) (h : Mat w v m) :
    Calls Try.prog 39 #[v] w fun e w' => e = .returned (.int .i64 (primStep m)) ∧ Below w.heap.size w w' := by
  cases hp : isPrim m
  · have HP := Lib.hid hp; clear hp
    go_enter Try.func39, Try.ntmps39
    go_wp2_with fail
    refine (sIsPrimitive _ m _ h).mono ?_
    rintro e w1 ⟨rfl, hb⟩
    rw [HP.out]
    go_wp2
    go_ret
    exact ⟨ret_int (primStep_no HP.out).symm, hb⟩
  obtain ⟨av, n, cv, rfl, HL, hn, -⟩ := h.open
  have hm : isMat m = true := by unfold isPrim at hp; rw [Bool.and_eq_true] at hp; exact irr_mat hp.1
  have n9 : n ≤ 9 := by have := (isMat_len hm).2; have := HL.out; omega
  obtain ⟨L, hS⟩ := step_some hp
  have HR := Lib.hid (primStep_is hp hS)
  have HS := Lib.hid hS; clear hS
  have HI := Lib.hid hm; clear hm
  have HP := Lib.hid hp; clear hp
  have L1 : 1 ≤ L := HS.out.1.1
  go_enter Try.func39, Try.ntmps39
  go_wp2_with fail
  refine (sIsPrimitive _ m _ h).mono ?_
  rintro e w1 ⟨rfl, hb⟩
  rw [HP.out]
  go_wp2_with fail
  refine (sOne n _ (by omega)).mono ?_
  rintro e w2 ⟨v2, rfl, ho2, hb2⟩
  have b2 := hb.trans (hb2.mono hb.size)
  have z2 := b2.size
  have z1 := hb.size
  go_wp2_with fail
  refine (sStep _ _ unitF m n _ HL.out ho2.mat (h.keep b2) unitF_bits HI.out).mono ?_
  rintro e w3 ⟨v3, rfl, ho3, hb3⟩
  have b3 := b2.trans (hb3.mono z2)
  go_wp2
  go_loopg [3, 4] (L - 1) (fun gk a i wr => ∃ (t : Nat) (c : Int), 1 ≤ t ∧ t + gk = L ∧ i = .int .i64 c ∧ Hid (c = ctr t) ∧ OwnMat 28 3 w.heap.size wr a (tabF n n (hv m n t)) ∧ Below w.heap.size w wr)
  case atStart => exact ⟨1, 1, Nat.le_refl _, by omega, rfl, Lib.hid ctr_one.symm, ho3.mono z2, b3⟩
  case round =>
    clear ho3 b3 hb3 ho2 hb2 b2 z2 hb z1
    obtain ⟨t, c, ht, htL, rfl, HCt, ho, hb⟩ := hrel
    have hs := hb.size
    obtain ⟨a2, n2, c2, rfl, HL2, hn2, HC2⟩ := ho.mat.open
    have hn2n : n2 = n := by have := HL2.out; rw [tabF_length] at this; exact this.symm
    subst hn2n
    have HO := Lib.hid ho; clear ho
    obtain ⟨wo, rfl⟩ : ∃ wo : World, wo = wr := ⟨_, rfl⟩
    go_wp2
    go_loop [5, 6] (fun f i => ∃ (j : Nat) (b : Bool), j ≤ n2 ∧ i = .int .i64 j ∧ f = .bool b ∧ Hid (b = rowsB (hv m n2 t) n2 j)) (fun _ i => n2 - (intOf i).toNat)
    case atStart => exact ⟨0, true, Nat.zero_le _, rfl, rfl, Lib.hid rfl⟩
    case round =>
      obtain ⟨j, b, hj, rfl, rfl, HB⟩ := hrel
      by_cases hltj : j < n2
      · obtain ⟨b1, o1, u1, r1, rfl, hc1, HX1, hu1⟩ := HC2.out j hltj
        obtain rfl : r1 = rowF n2 (hv m n2 t j) := by have := HX1.out; rw [tabF_get hltj] at this; exact (Option.some.inj this).symm
        obtain ⟨a3, n3, c3, rfl, HL3, hn3, HC3⟩ := hu1.open
        have hn3n : n3 = n2 := by have := HL3.out; rw [rowF_length] at this; exact this.symm
        subst hn3n
        clear hu1
        go_wp2
        go_loop [5, 7] (fun f i => ∃ (k : Nat) (b : Bool), k ≤ n3 ∧ i = .int .i64 k ∧ f = .bool b ∧ Hid (b = colsB (hv m n3 t) n3 j k)) (fun _ i => n3 - (intOf i).toNat)
        case atStart => exact ⟨0, b, Nat.zero_le _, rfl, rfl, Lib.hid (by rw [colsB_zero]; exact HB.out)⟩
        case round =>
          obtain ⟨k, b', hk, rfl, rfl, HB'⟩ := hrel
          by_cases hltk : k < n3
          · obtain ⟨b4, o4, x, rfl, hc4, HX4⟩ := HC3.out k hltk
            have HXV : Hid (hv m n3 t j k = x) := Lib.hid (by have := HX4.out; rw [rowF_get hltk] at this; exact Option.some.inj this)
            cases b'
            · go_wp2
              go_round
              case rel => exact ⟨k + 1, false, by omega, by go_num, rfl, Lib.hid (colsB_f HB'.out.symm).symm⟩
              case measure => simp [intOf]; omega
            · go_wp2
              go_round
              case rel => exact ⟨k + 1, x == 1, by omega, by go_num, by simp, Lib.hid (colsB_t HB'.out.symm HXV.out).symm⟩
              case measure => simp [intOf]; omega
          · have e : k = n3 := by omega
            subst e
            go_wp2
            go_round
            case rel => exact ⟨j + 1, b', by omega, by go_num, rfl, Lib.hid (by rw [← colsB_all]; exact HB'.out)⟩
            case measure => simp [intOf]; omega
      · have e : j = n2 := by omega
        subst e
        rw [rowsB_all] at HB
        cases b
        · have htl : t < L := step_more HS.out HL.out (by omega) HB.out.symm
          go_wp2_with fail
          refine (sStep _ _ (hv m j t) m j _ HL.out HO.out.mat (h.keep hb) (hv_bits m j t) HI.out).mono ?_
          rintro e w4 ⟨v4, rfl, ho4, hb4⟩
          go_wp2
          go_roundg (gk - 1)
          case rel => exact ⟨t + 1, _, by omega, by omega, rfl, Lib.hid (by rw [HCt.out]; rfl), ho4.mono hs, hb.trans (hb4.mono hs)⟩
          case measure => omega
        · have htl : t = L := step_last HS.out HL.out ht (by omega) HB.out.symm
          have HT := Lib.hid htl; clear htl
          go_wp2
          go_ret
          exact ⟨ret_int (by rw [HR.out, HCt.out, HT.out]), hb⟩
set_option maxRecDepth 10000 in
set_option maxHeartbeats 800000 in
theorem iPrimitiveStep (v : Value) (m : List (List Int)) (w : World) (h : Mat w v m) :
    Calls Try.prog 34 #[v] w fun e w' => e = .returned (.int .i64 (primStep m)) ∧ Below w.heap.size w w' := by
  cases hp : isPrim m
  · have HP := Lib.hid hp; clear hp
    go_enter Try.func34, Try.ntmps34
    go_wp2_with fail
    refine (iIsPrimitive _ m _ h).mono ?_
    rintro e w1 ⟨rfl, hb⟩
    rw [HP.out]
    go_wp2
    go_ret
    exact ⟨ret_int (primStep_no HP.out).symm, hb⟩
  obtain ⟨av, n, cv, rfl, HL, hn, -⟩ := h.open
  have hm : isMat m = true := by unfold isPrim at hp; rw [Bool.and_eq_true] at hp; exact irr_mat hp.1
  have n9 : n ≤ 9 := by have := (isMat_len hm).2; have := HL.out; omega
  obtain ⟨L, hS⟩ := step_some hp
  have HR := Lib.hid (primStep_is hp hS)
  have HS := Lib.hid hS; clear hS
  have HI := Lib.hid hm; clear hm
  have HP := Lib.hid hp; clear hp
  have L1 : 1 ≤ L := HS.out.1.1
  go_enter Try.func34, Try.ntmps34
  go_wp2_with fail
  refine (iIsPrimitive _ m _ h).mono ?_
  rintro e w1 ⟨rfl, hb⟩
  rw [HP.out]
  go_wp2_with fail
  refine (iunit n _ (by omega)).mono ?_
  rintro e w2 ⟨v2, rfl, ho2, hb2⟩
  have b2 := hb.trans (hb2.mono hb.size)
  have z2 := b2.size
  have z1 := hb.size
  go_wp2
  go_loopg [3, 4] (L - 1) (fun gk a i wr => ∃ (t : Nat) (c : Int), t + 1 + gk = L ∧ i = .int .i64 c ∧ Hid (c = ctr (t + 1)) ∧ OwnMat 28 3 w.heap.size wr a (tabF n n (hv m n t)) ∧ Below w.heap.size w wr)
  case atStart => exact ⟨0, 1, by omega, rfl, Lib.hid ctr_one.symm, ho2.mono z1, b2⟩
  case round =>
    clear ho2 hb2 b2 z2 hb z1
    obtain ⟨t, c, htL, rfl, HCt, ho, hb⟩ := hrel
    have hs := hb.size
    go_wp2_with fail
    refine (iStep _ _ (hv m n t) m n _ HL.out ho.mat (h.keep hb) (hv_bits m n t) HI.out).mono ?_
    rintro e w4 ⟨v4, rfl, ho4, hb4⟩
    have ho5 : OwnMat 28 3 wr.heap.size w4 v4 (tabF n n (hv m n (t + 1))) := ho4
    clear ho4
    have b4 := hb.trans (hb4.mono hs)
    go_wp2_with fail
    refine (slContainsF _ _ _ ho5.mat).mono ?_
    rintro e w5 ⟨rfl, rfl⟩
    rw [zrow_noZero, all_full (hv_bits m n (t + 1))]
    cases hf : fullB (hv m n (t + 1)) n
    · have htl : t + 1 < L := step_more HS.out HL.out (by omega) hf
      clear hf
      go_wp2
      go_roundg (gk - 1)
      case rel => exact ⟨t + 1, _, by omega, rfl, Lib.hid (by rw [HCt.out]; rfl), ho5.mono hs, b4⟩
      case measure => omega
    · have htl : t + 1 = L := step_last HS.out HL.out (by omega) (by omega) hf
      have HT := Lib.hid htl; clear htl hf
      go_wp2
      go_ret
      exact ⟨ret_int (by rw [HR.out, HCt.out, HT.out]), b4⟩
end Go.Proofs.Ytenjakgahniijaa
