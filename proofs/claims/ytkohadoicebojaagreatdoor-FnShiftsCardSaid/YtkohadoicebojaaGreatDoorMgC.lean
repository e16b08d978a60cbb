/- Contracts and plain facts that the law needs, from several texts. No statement is proved here. -/
import Derived.Test.YtkohadoicebojaaGreatDoorAvW
import Derived.Test.YtkohadoicebojaaGreatDoorLively
import Derived.Test.YtkohadoicebojaaGreatDoorLivOf
import Derived.Deep.RegionHeld3
import Derived.Deep.LoopGhost
namespace Go.Proofs.YtkohadoicebojaaGreatDoor
open Go.RowKit Go.Deep
section
variable {α : Type}
/-- One round of elimination: what has a next and a former one in the list. -/
def hasN (R : α → α → Bool) (l : List α) (u : α) : Bool := l.any (R u)
def hasF (R : α → α → Bool) (l : List α) (u : α) : Bool := l.any fun v => R v u
def stays (R : α → α → Bool) (l : List α) (u : α) : Bool := hasN R l u && hasF R l u
def stpW (R : α → α → Bool) (l : List α) : List α := l.filter (stays R l)
def stpN (R : α → α → Bool) (l : List α) : Nat → List α
  | 0 => l
  | t + 1 => stpW R (stpN R l t)
def core (R : α → α → Bool) (l : List α) : List α := stpN R l l.length
theorem stp_le (R : α → α → Bool) (l : List α) : (stpW R l).length ≤ l.length := List.length_filter_le _ _
theorem stp_fix {R : α → α → Bool} {l : List α} (h : (stpW R l).length = l.length) : stpW R l = l := List.filter_eq_self.2 (List.length_filter_eq_length_iff.1 h)
theorem stpN_fix {R : α → α → Bool} {l : List α} {t : Nat} (h : stpW R (stpN R l t) = stpN R l t) : ∀ j, stpN R l (t + j) = stpN R l t := by
  intro j
  induction j with
  | zero => rfl
  | succ j ih => rw [← Nat.add_assoc]; show stpW R (stpN R l (t + j)) = _; rw [ih, h]
theorem stpN_small (R : α → α → Bool) (l : List α) : ∀ t, stpW R (stpN R l t) = stpN R l t ∨ (stpN R l t).length + t ≤ l.length := by
  intro t
  induction t with
  | zero => exact .inr (Nat.le_refl _)
  | succ t ih =>
    rcases ih with ih | ih
    · left; show stpW R (stpW R (stpN R l t)) = stpW R (stpN R l t); rw [ih, ih]
    · by_cases h : (stpW R (stpN R l t)).length = (stpN R l t).length
      · left; show stpW R (stpW R (stpN R l t)) = stpW R (stpN R l t); rw [stp_fix h, stp_fix h]
      · right
        have := stp_le R (stpN R l t)
        show (stpW R (stpN R l t)).length + (t + 1) ≤ _
        omega
theorem core_fix (R : α → α → Bool) (l : List α) : stpW R (core R l) = core R l := by
  rcases stpN_small R l l.length with h | h
  · exact h
  · have : stpN R l l.length = [] := List.length_eq_zero_iff.1 (by omega)
    unfold core; rw [this]; rfl
theorem core_of {R : α → α → Bool} {l : List α} {t : Nat} (h : (stpW R (stpN R l t)).length = (stpN R l t).length) : stpN R l t = core R l := by
  have h1 := stp_fix h
  have h2 := core_fix R l
  rcases Nat.le_total t l.length with hl | hl
  · have := stpN_fix h1 (l.length - t)
    rw [show t + (l.length - t) = l.length by omega] at this
    exact this.symm
  · have := stpN_fix (t := l.length) h2 (t - l.length)
    rw [show l.length + (t - l.length) = t by omega] at this
    exact this
theorem stpN_sub (R : α → α → Bool) (l : List α) : ∀ t, ∀ x ∈ stpN R l t, x ∈ l := by
  intro t
  induction t with
  | zero => intro x hx; exact hx
  | succ t ih => intro x hx; exact ih x (List.mem_filter.1 hx).1
theorem stpN_len (R : α → α → Bool) (l : List α) : ∀ t, (stpN R l t).length ≤ l.length := by
  intro t
  induction t with
  | zero => exact Nat.le_refl _
  | succ t ih => exact Nat.le_trans (stp_le R _) ih
theorem core_stays {R : α → α → Bool} {l : List α} {x : α} (h : x ∈ core R l) : stays R (core R l) x = true := by
  rw [← core_fix R l] at h
  exact (List.mem_filter.1 h).2
/-- The elements whose places are marked. -/
def pick (z : α) (L : Nat → Bool) (l : List α) : Nat → List α
  | 0 => []
  | j + 1 => pick z L l j ++ (if L j = true then [l.getD j z] else [])
def idxE (z : α) (R : α → α → Bool) (l : List α) (i j : Nat) : Bool := R (l.getD i z) (l.getD j z)
theorem pick_any (z : α) (L : Nat → Bool) (l : List α) (R : α → α → Bool) (i : Nat) : ∀ n, (pick z L l n).any (R (l.getD i z)) = frTo (idxE z R l) L i n := by
  intro n
  induction n with
  | zero => rfl
  | succ n ih =>
    rw [pick, frTo, List.any_append, ih]
    cases L n <;> simp [idxE]
theorem pick_any' (z : α) (L : Nat → Bool) (l : List α) (R : α → α → Bool) (i : Nat) : ∀ n, (pick z L l n).any (fun v => R v (l.getD i z)) = toTo (idxE z R l) L i n := by
  intro n
  induction n with
  | zero => rfl
  | succ n ih =>
    rw [pick, toTo, List.any_append, ih]
    cases L n <;> simp [idxE]
theorem pick_filter (z : α) (L : Nat → Bool) (l : List α) (q : α → Bool) : ∀ n, (pick z L l n).filter q = pick z (fun i => L i && q (l.getD i z)) l n := by
  intro n
  induction n with
  | zero => rfl
  | succ n ih =>
    rw [pick, pick, List.filter_append, ih]
    cases L n
    · simp
    · generalize l.getD n z = y
      cases hq : q y <;> simp [hq]
theorem pick_congr (z : α) (l : List α) {L L' : Nat → Bool} : ∀ n, (∀ i, i < n → L i = L' i) → pick z L l n = pick z L' l n := by
  intro n
  induction n with
  | zero => intro _; rfl
  | succ n ih => intro h; rw [pick, pick, ih fun i hi => h i (by omega), h n (by omega)]
theorem pick_take (z : α) (l : List α) : ∀ n, n ≤ l.length → pick z (fun _ => true) l n = l.take n := by
  intro n
  induction n with
  | zero => intro _; simp [pick]
  | succ n ih =>
    intro h
    rw [pick, ih (by omega), List.take_add_one, List.getElem?_eq_getElem (show n < l.length by omega)]
    simp [List.getD, List.getElem?_eq_getElem (show n < l.length by omega)]
theorem pick_rnd (z : α) (R : α → α → Bool) (l : List α) : ∀ t, pick z (rnd (idxE z R l) l.length t) l l.length = stpN R l t := by
  intro t
  induction t with
  | zero => show pick z (fun _ => true) l l.length = l; rw [pick_take z l _ (Nat.le_refl _), List.take_length]
  | succ t ih =>
    show _ = stpW R (stpN R l t)
    rw [← ih]
    unfold stpW
    rw [pick_filter]
    refine pick_congr z l _ fun i _ => ?_
    show (rnd (idxE z R l) l.length t i && good (idxE z R l) l.length (rnd (idxE z R l) l.length t) i) = _
    unfold good stays hasN hasF
    rw [pick_any, pick_any']
theorem pick_core {z : α} {R : α → α → Bool} {l : List α} {n : Nat} (hl : l.length = n) : pick z (lv (idxE z R l) n) l n = core R l := by subst hl; exact pick_rnd z R l l.length
theorem pick_len (z : α) (L : Nat → Bool) (l : List α) : ∀ n, (pick z L l n).length ≤ n := by
  intro n
  induction n with
  | zero => exact Nat.le_refl _
  | succ n ih => rw [pick, List.length_append]; split <;> simp <;> omega
end
theorem occ_iff {s p : ByteArray} : occ s p = true ↔ bts p <:+: bts s := by
  unfold occ Lib.contains bts
  rcases Lib.index_spec s.data.toList p.data.toList with ⟨h1, h2⟩ | ⟨i, h1, h2, h3, _⟩
  · rw [h1]
    constructor
    · intro h; simp at h
    · rintro ⟨a, b, h⟩
      have h4 := h2 a.length (by rw [← h]; simp)
      unfold Lib.occAt at h4
      rw [← h, List.append_assoc, List.drop_left, ← Bool.not_eq_true, List.isPrefixOf_iff_prefix] at h4
      exact absurd (List.prefix_append _ _) h4
  · rw [h1]
    constructor
    · intro _
      unfold Lib.occAt at h3
      rw [List.isPrefixOf_iff_prefix] at h3
      exact h3.isInfix.trans (List.drop_suffix _ _).isInfix
    · intro _; exact decide_eq_true (by omega)
theorem occ_trans {s p q : ByteArray} (h : occ s p = true) (h2 : occ p q = true) : occ s q = true := occ_iff.2 ((occ_iff.1 h2).trans (occ_iff.1 h))
/-- The word v may follow the word u. -/
def fol (f : List ByteArray) (u v : ByteArray) : Bool := decide ((bts u).getD 1 0 = (bts v).getD 0 0) && avo f (u ++ v.extract 1 v.size)
def pairs0 (k : Nat) (f : List ByteArray) : List ByteArray := (words k 2).filter (avo f)
/-- The words of two letters that go on without end. -/
def pairs (k : Nat) (f : List ByteArray) : List ByteArray := core (fol f) (pairs0 k f)
theorem pairs0_in {k : Nat} {f : List ByteArray} {x : ByteArray} (h : x ∈ pairs0 k f) : x.size = 2 ∧ avo f x = true :=
  ⟨words_size k 2 x (List.mem_filter.1 h).1, (List.mem_filter.1 h).2⟩
theorem pairs_in {k : Nat} {f : List ByteArray} {x : ByteArray} (h : x ∈ pairs k f) : x.size = 2 ∧ avo f x = true := pairs0_in (stpN_sub _ _ _ x h)
theorem pairs0_len {k : Nat} {f : List ByteArray} (hk : k ≤ 3) : (pairs0 k f).length ≤ 9 := by
  have h1 := List.length_filter_le (avo f) (words k 2)
  have h2 : (words k 2).length ≤ 9 := by
    rw [words_length]
    have h1 : kp k 2 ≤ 3 ^ 2 := Nat.pow_le_pow_left hk 2
    have h3 : (3 : Nat) ^ 2 = 9 := rfl
    omega
  unfold pairs0; omega
theorem pairs_len {k : Nat} {f : List ByteArray} (hk : k ≤ 3) : (pairs k f).length ≤ 9 := Nat.le_trans (stpN_len _ _ _) (pairs0_len hk)
def hasText (l : List ByteArray) (x : ByteArray) : Bool := l.any (fun y => decide (y = x))
/-- Whether a word lies in the language. -/
def inL (k : Nat) (f : List ByteArray) (x : ByteArray) : Bool :=
  avo f x && (if 2 ≤ x.size then hasText (pairs k f) (x.extract 0 2) && hasText (pairs k f) (x.extract (x.size - 2) x.size) else (pairs k f).any fun u => occ u x)
theorem avo_part {f : List ByteArray} {s p : ByteArray} (h : avo f s = true) (hp : occ s p = true) : avo f p = true := by
  unfold avo at h ⊢
  rw [List.all_eq_true] at h ⊢
  intro x hx
  have h1 := h x hx
  cases ho : occ p x
  · exact avo1_yes ho
  · rw [avo1_no (occ_trans hp ho)] at h1; cases h1
theorem inL_small {k : Nat} {f : List ByteArray} {x : ByteArray} (h : x.size < 2) : inL k f x = (pairs k f).any fun u => occ u x := by
  unfold inL
  rw [if_neg (by omega)]
  cases ha : (pairs k f).any fun u => occ u x
  · rw [Bool.and_false]
  · rw [Bool.and_true]
    obtain ⟨u, hu, ho⟩ := List.any_eq_true.1 ha
    exact avo_part (pairs_in hu).2 ho
theorem inL_no {k : Nat} {f : List ByteArray} {x : ByteArray} (h : avo f x = false) : inL k f x = false := by unfold inL; rw [h, Bool.false_and]
theorem inL_big {k : Nat} {f : List ByteArray} {x : ByteArray} (h : 2 ≤ x.size) (ha : avo f x = true) : inL k f x = (hasText (pairs k f) (x.extract 0 2) && hasText (pairs k f) (x.extract (x.size - 2) x.size)) := by unfold inL; rw [ha, if_pos h, Bool.true_and]
theorem inL_none {k : Nat} {f : List ByteArray} {x : ByteArray} (h : pairs k f = []) : inL k f x = false := by unfold inL; rw [h]; simp [hasText]
def inLang (k : Int) (f : List ByteArray) (x : ByteArray) : Bool := isShift k f && (isWord k x && inL k.toNat f x)
def langL (k : Int) (f : List ByteArray) (n : Int) : List ByteArray := if langB k n f = true then (words k.toNat n.toNat).filter (inL k.toNat f) else []
def isEmptyS (k : Int) (f : List ByteArray) : Bool := isShift k f && decide ((pairs k.toNat f).length = 0)
end Go.Proofs.YtkohadoicebojaaGreatDoor

namespace Go.Proofs.YtkohadoicebojaaGreatDoor
open Go.RowKit Go.Deep
theorem getD_get {α : Type} {l : List α} {i : Nat} {x z : α} (h : l[i]? = some x) : l.getD i z = x := by simp [List.getD, h]
theorem fol_eq {f : List ByteArray} {u v y : ByteArray} {c d : UInt8} (hu : (bts u)[1]? = some c) (hv : (bts v)[0]? = some d) (hy : u ++ v.extract 1 v.size = y) : fol f u v = (decide (c = d) && avo f y) := by
  unfold fol; rw [getD_get hu, getD_get hv, hy]
theorem idxE_eq {f L : List ByteArray} {i j : Nat} {u v : ByteArray} (hu : L[i]? = some u) (hv : L[j]? = some v) : idxE ByteArray.empty (fol f) L i j = fol f u v := by
  unfold idxE; rw [getD_get hu, getD_get hv]
theorem u8_ne {c d : UInt8} (h : c ≠ d) : ((c.toNat : Int) == (d.toNat : Int)) = false := by
  refine beq_eq_false_iff_ne.2 fun e => h (UInt8.toNat_inj.1 (by omega))
theorem ints_append' (l : List Int) (x : Int) : ints (l ++ [x]) = ints l ++ [.int .i64 x] := by simp [ints]
set_option maxRecDepth 10000 in
set_option maxHeartbeats 800000 in
theorem istates (k : Nat) (v : Value) (l : List ByteArray) (w : World) (hm : Ml w) (h : Strs w v l) (hk1 : 1 ≤ k) (hk : k ≤ 3) :
    Calls Tryz.prog 93 #[.agg #[.int .i64 k, v]] w fun e w' => ∃ v', e = .returned v' ∧ OwnS 9 w.heap.size w' v' (pairs k l) ∧ Below w.heap.size w w' := by
  have hb0 := below_alloc w (.cells #[.int .i64 k, v] 41)
  have c0 : (w.alloc (.cells #[.int .i64 k, v] 41)).cell? ⟨w.heap.size, 0, none⟩ = some (.int .i64 k) := by simp
  have c1 : (w.alloc (.cells #[.int .i64 k, v] 41)).cell? ⟨w.heap.size, 1, none⟩ = some v := by simp
  have z0 : (w.alloc (.cells #[.int .i64 k, v] 41)).heap.size = w.heap.size + 1 := by simp
  have n9 := pairs0_len (f := l) hk
  obtain ⟨n, hn⟩ : ∃ n, (pairs0 k l).length = n := ⟨_, rfl⟩
  rw [hn] at n9
  have HN := Lib.hid hn; clear hn
  have HPZ : Hid (∀ x ∈ pairs0 k l, x.size = 2) := Lib.hid fun x hx => (pairs0_in hx).1
  obtain ⟨av, nv, cv, rfl, -⟩ := h.open
  go_enter Tryz.func93, Tryz.ntmps93
  go_wp2_with fail
  refine (ifiltA k _ l k 2 _ (hm.keep hb0) (h.keep hb0) hk1 hk (by omega)).mono ?_
  rintro e w2 ⟨v2, rfl, ho2, hb2⟩
  obtain ⟨a2, c2, rfl⟩ := Own.form ho2 (show (strs (pairs0 k l)).length = n by rw [strs_length]; exact HN.out)
  have q0 := cell_keep hb2 c0
  have q1 := cell_keep hb2 c1
  have b2 := hb0.trans (hb2.mono hb0.size)
  have z2 := hb2.size
  rw [z0] at z2
  have hm2 := hm.keep b2
  have hl2 := h.keep b2
  have hS2 : Strs w2 (.slice a2 n c2) (pairs0 k l) := ho2.strs
  obtain ⟨a3, n3, c3, hv3, -, hn3, HC⟩ := hS2.open
  cases hv3
  clear hb0 c0 c1 z0 hb2 ho2 hm h
  obtain ⟨E, hE⟩ : ∃ E, idxE ByteArray.empty (fol l) (pairs0 k l) = E := ⟨_, rfl⟩
  have HE : Hid (idxE ByteArray.empty (fol l) (pairs0 k l) = E) := Lib.hid hE
  clear hE
  go_wp2
  go_loopw [4, 21] (fun nx i wr => ∃ a : Nat, a ≤ n ∧ i = .int .i64 a ∧ OwnMat 62 3 w2.heap.size wr nx (nxTo E n a) ∧ Below w2.heap.size w2 wr) (fun _ i _ => n - (intOf i).toNat)
  case atStart => exact ⟨0, Nat.zero_le _, rfl, OwnMat.empty _ _ _, below_alloc _ _⟩
  case round =>
    obtain ⟨i, hi, rfl, ho, hbl⟩ := hrel
    obtain ⟨wo, rfl⟩ : ∃ wo : World, wo = wr := ⟨_, rfl⟩
    have hs := hbl.size
    by_cases hlti : i < n
    · obtain ⟨b, off, u, rfl, hcu, HU⟩ := HC.out i hlti
      have hus1 : u.size ≤ 2 := by rw [HPZ.out u (List.mem_of_getElem? HU.out)]; omega
      have hus2 : 1 < u.size := by rw [HPZ.out u (List.mem_of_getElem? HU.out)]; omega
      have hcu1 := cell_keep hbl hcu
      clear hcu
      obtain ⟨bu, hbu, HBU, hbu9⟩ := byte_at hus2
      have hH := ho.toH
      go_wp2
      go_loopw [7, 28] (fun q j wq => ∃ j' : Nat, j' ≤ n ∧ j = .int .i64 j' ∧ Own 3 wo.heap.size wq q (ints (lvTo (E i) j')) ∧ Below wo.heap.size wo wq) (fun _ j _ => n - (intOf j).toNat)
      case atStart => exact ⟨0, Nat.zero_le _, rfl, Own.empty _ _, below_alloc _ _⟩
      case round =>
        obtain ⟨j, hj, rfl, hq, hbq⟩ := hrel
        have hsq := hbq.size
        have HLQ := Lib.hid (lvTo_len (E i) j)
        by_cases hltj : j < n
        · obtain ⟨b', off', x, hab, hcx, HX⟩ := HC.out j hltj
          cases hab
          have hxs1 : x.size ≤ 2 := by rw [HPZ.out x (List.mem_of_getElem? HX.out)]; omega
          have hxs2 : 1 < x.size := by rw [HPZ.out x (List.mem_of_getElem? HX.out)]; omega
          have hxs3 : 1 ≤ x.size := by omega
          have hxs0 : 0 < x.size := by omega
          have hxs4 : (1 : Int) ≤ (x.size : Int) := by omega
          have hbw := hbl.trans (hbq.mono hs)
          have hcx1 := cell_keep hbw hcx
          have d0 := cell_keep hbw q0
          have d1 := cell_keep hbw q1
          clear hcx
          obtain ⟨bx, hbx, HBX, hbx9⟩ := byte_at hxs0
          obtain ⟨y, hy⟩ : ∃ y, u ++ x.extract 1 x.size = y := ⟨_, rfl⟩
          have HY := Lib.hid hy
          have HV : Hid (E i j = (decide (bu = bx) && avo l y)) := Lib.hid (by rw [← HE.out, idxE_eq HU.out HX.out, fol_eq HBU.out HBX.out hy])
          clear hy
          by_cases hcd : bu = bx
          · have hcd2 : ((bu.toNat : Int) == (bx.toNat : Int)) = true := by rw [hcd]; simp
            have hxe : (x.extract 1 x.size).size ≤ 2 := by rw [ByteArray.size_extract]; omega
            have hadd : (Op.stringOp .add u (x.extract 1 x.size)).run Tryz.prog = fun w => .ok (.string y) w := by funext w; rw [run_string_add_if, if_neg (by omega), HY.out]
            have hys : y.size ≤ 1048576 := by rw [← HY.out, ByteArray.size_append]; omega
            have hmd : Ml wr.drew := hm2.keep hbw.drew
            have hld : Strs wr.drew (.slice av nv cv) l := hl2.keep hbw.drew
            have hqd : Own 3 wo.heap.size wr.drew _ (ints (lvTo (E i) j)) := hq
            have hbqd : Below wo.heap.size wo wr.drew := hbq.drew
            have d0d : wr.drew.cell? ⟨w.heap.size, 0, none⟩ = some (.int .i64 k) := d0
            have d1d : wr.drew.cell? ⟨w.heap.size, 1, none⟩ = some (.slice av nv cv) := d1
            obtain ⟨bb, hA⟩ : ∃ bb, avo l y = bb := ⟨_, rfl⟩
            have HA := Lib.hid hA
            have HS : Hid (lvTo (E i) (j + 1) = lvTo (E i) j ++ (if bb = true then [(j : Int)] else [])) := Lib.hid (by rw [lvTo, HV.out, hA, decide_eq_true hcd, Bool.true_and])
            clear hA
            go_wp2
            go_region_held3 (fun w' => w'.cell? ⟨w.heap.size, 0, none⟩ = some (.int .i64 k) ∧ w'.cell? ⟨w.heap.size, 1, none⟩ = some (.slice av nv cv))
              (first | (exact ⟨d0, d1⟩) | (exact ⟨d0d, d1d⟩) | (exact ⟨e0, e1⟩) | go_keep)
              ((go_at_call 89; refine (iavoids k _ l y _ hmd hld hys).mono ?_; rintro e w3 ⟨rfl, hb3⟩; rw [HA.out]; have e0 := cell_keep (w := wr.drew) hb3 d0d; have e1 := cell_keep (w := wr.drew) hb3 d1d))
            all_goals
              have hb4 := hbqd.trans (hb3.mono hbqd.size)
              have hq4 := hqd.keep hb3
              have hs4 := hb4.size
              clear hb3 hqd hbqd d0 d1 d0d d1d hmd hld e0 e1 hadd hcx1
              cases bb
              · go_wp2
                go_roundw
                case rel => exact ⟨j + 1, by omega, by go_num, by rw [HS.out]; simpa using hq4, hb4⟩
                case measure => simp [intOf]; omega
              · go_wp2_with (at_builtin; refine app1 62 3 8 (.int .i64 0) Tryz.underlying62 Tryz.infoInt rfl hq4 (.int .i64 j) rfl ?h1 ?h2 hs4 rfl _ _ rfl rfl rfl (by simp) ?_)
                case h1 => rw [ints_length]; have := HLQ.out; unfold maxLen; omega
                case h2 => rw [ints_length]; have := HLQ.out; omega
                intro q' w5 hq5 hg _
                go_wp2
                go_roundw
                case rel => exact ⟨j + 1, by omega, by go_num, by rw [HS.out, if_pos trivial, ints_append']; exact hq5, hb4.trans (hq4.below hg (Nat.le_refl _) hs4)⟩
                case measure => simp [intOf]; omega
          · have HS : Hid (lvTo (E i) (j + 1) = lvTo (E i) j) := Lib.hid (by rw [lvTo, HV.out, decide_eq_false hcd]; simp)
            have hne := u8_ne hcd
            go_wp2
            go_quiet (fail)
            go_wp2
            go_roundw
            case rel => exact ⟨j + 1, by omega, by go_num, by rw [HS.out]; exact hq.keep (below_drewN _ _), hbq.trans ((below_drewN _ _).mono hsq)⟩
            case measure => simp [intOf]; omega
        · have e : n = j := by omega
          subst e
          have hHq := hH.keep hbq
          obtain ⟨aq, cq, hqf⟩ := hq.form rfl
          subst hqf
          have HNL := Lib.hid (nxTo_length E n i)
          go_wp2_with (at_builtin; refine appM 24 62 3 Tryz.underlying24 Tryz.infoInts (by decide) hHq hq hs hsq (by rw [HNL.out]; omega) rfl _ _ rfl rfl rfl (by simp) ?_)
          intro q' w3 hq3 hg hsz3
          have hb3 := (hbl.trans (hbq.mono hs)).trans (grow_below hg (fun k hk => (ho.own k hk).1) (Nat.le_refl _) (by omega))
          go_wp2
          go_roundw
          case rel => exact ⟨i + 1, by omega, by go_num, by rw [nxTo_succ]; exact hq3, hb3⟩
          case measure => simp [intOf]; omega
    · have e : n = i := by omega
      subst e
      have hRR : ∀ (a : Nat) (r : List Int), (nxTo E n n)[a]? = some r → r.length ≤ 4000000 ∧ ∀ x ∈ r, 0 ≤ x ∧ x < n := fun a r hr => nxTo_rows hr (by omega)
      have HLV := Lib.hid (lv_nxTo E n)
      have HPK : Hid (pick ByteArray.empty (lv E n) (pairs0 k l) n = pairs k l) := Lib.hid (by rw [← HE.out]; exact pick_core HN.out)
      obtain ⟨L, hL⟩ : ∃ L, lv E n = L := ⟨_, rfl⟩
      have hwa := below_alloc wo (.cells #[] 9)
      have hoa := ho.mat.keep hwa
      go_wp2_with fail
      refine (ilively _ _ _ hoa n (nxTo_length _ _ _) (by omega) hRR).mono ?_
      rintro e w4 ⟨v4, rfl, hse, hb4⟩
      rw [HLV.out, hL] at hse
      rw [hL] at HPK
      clear hL HLV
      obtain ⟨a4, c4, hv4⟩ := hse.form (bls_length n L)
      subst hv4
      have how := (Own.empty 9 wo).keep hb4
      have hz4 := hb4.size
      have hz5 : wo.heap.size + 1 ≤ w4.heap.size := by simpa using hz4
      have b4 : Below w2.heap.size w2 w4 := hbl.trans ((hwa.trans (hb4.mono hwa.size)).mono hs)
      clear hoa hwa ho hbl hz4 hb4
      go_wp2
      go_loopw [10, 60] (fun q i wq => ∃ a : Nat, a ≤ n ∧ i = .int .i64 a ∧ Own 9 wo.heap.size wq q (strs (pick ByteArray.empty L (pairs0 k l) a)) ∧ Own 4 (wo.heap.size + 1) wq (.slice a4 n c4) (bls n L) ∧ Below w2.heap.size w2 wq ∧ wo.heap.size + 1 ≤ wq.heap.size) (fun _ i _ => n - (intOf i).toNat)
      case atStart => exact ⟨0, Nat.zero_le _, rfl, how, hse.mono (by simp), b4, hz5⟩
      case round =>
        clear how hse b4 hz5
        obtain ⟨i, hi, rfl, ho, hse, hb, hz⟩ := hrel
        by_cases hlt : i < n
        · obtain ⟨gs, cs, hv, -, hgs1, hfr, -⟩ := hse.at (bls_get (g := L) hlt)
          rw [bls_length] at hv
          obtain ⟨rfl, -⟩ := slice_inj1 hv
          clear hv
          obtain ⟨b, off, x, rfl, hcx, HX⟩ := HC.out i hlt
          have hcx1 := cell_keep hb hcx
          have HLN := Lib.hid (pick_len ByteArray.empty L (pairs0 k l) i)
          have hs5 := hb.size
          have HS : Hid (pick ByteArray.empty L (pairs0 k l) (i + 1) = pick ByteArray.empty L (pairs0 k l) i ++ (if L i = true then [x] else [])) := Lib.hid (by rw [pick, getD_get HX.out])
          obtain ⟨t, ht⟩ : ∃ t, L i = t := ⟨_, rfl⟩
          rw [ht] at hgs1 HS
          clear ht hcx
          cases t
          · go_wp2
            go_roundw
            case rel => exact ⟨i + 1, by omega, by go_num, by rw [HS.out]; simpa using ho, hse, hb, hz⟩
            case measure => simp [intOf]; omega
          · have hne := (Own.other hse ho (by decide))
            go_wp2_with (at_builtin; refine app1 39 9 16 (.string ByteArray.empty) Tryz.underlying39 Tryz.infoStr rfl ho (.string x) rfl ?h1 ?h2 (by omega) rfl _ _ rfl rfl rfl (by simp) ?_)
            case h1 => rw [strs_length]; have := HLN.out; unfold maxLen; omega
            case h2 => rw [strs_length]; have := HLN.out; omega
            intro q' w3 hq3 hg hsz3
            have hse3 := hse.grown hg hne
            go_wp2
            go_roundw
            case rel => exact ⟨i + 1, by omega, by go_num, by rw [HS.out, if_pos trivial, strs_append]; exact hq3, hse3, hb.trans (ho.below hg hs hs5), by omega⟩
            case measure => simp [intOf]; omega
        · have e : n = i := by omega
          subst e
          have b9 := b2.trans (hb.mono b2.size)
          go_wp2
          go_ret
          exact ⟨_, rfl, by rw [← HPK.out]; exact Own.mono ho (Nat.le_trans b2.size hs), b9⟩
end Go.Proofs.YtkohadoicebojaaGreatDoor

namespace Go.Proofs.YtkohadoicebojaaGreatDoor
open Go.RowKit Go.Deep
theorem anyT_no {α : Type} {p : α → Bool} {l : List α} {j : Nat} {x : α} (h : l[j]? = some x) (ht : (l.take j).any p = false) (hp : p x = false) : (l.take (j + 1)).any p = false := by
  rw [take_snoc h, List.any_append, ht]; simp [hp]
theorem anyT_yes {α : Type} {p : α → Bool} {l : List α} {j : Nat} {x : α} (h : l[j]? = some x) (hp : p x = true) : l.any p = true := List.any_eq_true.2 ⟨x, List.mem_of_getElem? h, hp⟩
theorem anyT_end {α : Type} {p : α → Bool} {l : List α} {n j : Nat} (hl : l.length = n) (hj : ¬ j < n) (ht : (l.take j).any p = false) : l.any p = false := by rwa [List.take_of_length_le (by omega)] at ht
theorem below_drewN2 (w : World) (n m : Nat) : Below w.heap.size w ((w.drewN n).drewN m) := ⟨rfl, rfl, rfl, Nat.le_refl _, fun _ _ => rfl⟩
theorem below_drewN3 (w : World) (n m k : Nat) : Below w.heap.size w (((w.drewN n).drewN m).drewN k) := ⟨rfl, rfl, rfl, Nat.le_refl _, fun _ _ => rfl⟩
set_option maxRecDepth 10000 in
set_option maxHeartbeats 800000 in
theorem sl3GoesT (k : Int) (v : Value) (l : List ByteArray) (vl : Value) (L : List ByteArray) (u : ByteArray) (w : World) (h : Strs w v l) (hz : ∀ x ∈ l, x.size ≤ 1048576) (hL : Strs w vl L) (hLz : ∀ x ∈ L, x.size = 2) (hu : u.size = 2) :
    Calls Tryz.prog 114 #[.agg #[.int .i64 k, v], vl, .string u, .bool true] w fun e w' => e = .returned (.bool (hasN (fol l) L u)) ∧ Below w.heap.size w w' := by
  have HZ := Lib.hid hz; clear hz
  have HLZ := Lib.hid hLz; clear hLz
  have hus1 : u.size ≤ 2 := by omega
  have hus2 : 1 < u.size := by omega
  have hus3 : 0 < u.size := by omega
  have hus4 : 1 ≤ u.size := by omega
  have hus5 : (1 : Int) ≤ (u.size : Int) := by omega
  have HU2 := Lib.hid hu; clear hu
  have hb0 := below_alloc w (.cells #[.int .i64 k, v] 41)
  have c1 : (w.alloc (.cells #[.int .i64 k, v] 41)).cell? ⟨w.heap.size, 1, none⟩ = some v := by simp
  obtain ⟨W0, hW0⟩ : ∃ W0, w.alloc (.cells #[.int .i64 k, v] 41) = W0 := ⟨_, rfl⟩
  have HW0 := Lib.hid hW0
  rw [hW0] at hb0 c1
  clear hW0
  obtain ⟨av, nv, cv, rfl, -⟩ := h.open
  obtain ⟨a, n, cap, rfl, HL, hn, HC⟩ := hL.open
  obtain ⟨bu, hbu, HBU, hbu9⟩ := byte_at hus2
  go_enter Tryz.func114, Tryz.ntmps114
  go_wp2
  go_loopw [9] (fun i wr => (∃ j : Nat, j ≤ n ∧ i = .int .i64 j ∧ Hid ((L.take j).any (fol l u) = false)) ∧ Drawn W0 wr) (fun i _ => n - (intOf i).toNat)
  case atStart => exact ⟨⟨0, Nat.zero_le _, rfl, Lib.hid (by simp)⟩, by rw [HW0.out]; exact Drawn.refl _⟩
  case round =>
    obtain ⟨⟨j, hj, rfl, HT⟩, hd⟩ := hrel
    have hbr := hb0.trans (hd.below w.heap.size)
    have d1 := hd.cell c1
    have hLr : Strs wr (.slice av nv cv) l := h.keep hbr
    by_cases hlt : j < n
    · obtain ⟨b, off, x, rfl, hcx, HX⟩ := HC.out j hlt
      have hcx1 := cell_keep hbr hcx
      clear hcx
      have hxs1 : x.size ≤ 2 := by rw [HLZ.out x (List.mem_of_getElem? HX.out)]; omega
      have hxs2 : 1 < x.size := by rw [HLZ.out x (List.mem_of_getElem? HX.out)]; omega
      have hxs3 : 1 ≤ x.size := by omega
      have hxs0 : 0 < x.size := by omega
      have hxs4 : (1 : Int) ≤ (x.size : Int) := by omega
      have hxs5 : (1 : Int) < (x.size : Int) := by omega
      obtain ⟨bx, hbx, HBX, hbx9⟩ := byte_at hxs0
      obtain ⟨y, hy⟩ : ∃ y, u ++ x.extract 1 x.size = y := ⟨_, rfl⟩
      have HY := Lib.hid hy
      have HV : Hid (fol l u x = (decide (bu = bx) && avo l y)) := Lib.hid (fol_eq HBU.out HBX.out hy)
      clear hy
      have hxe : (x.extract 1 x.size).size ≤ 2 := by rw [ByteArray.size_extract]; omega
      have hadd : (Op.stringOp .add u (x.extract 1 x.size)).run Tryz.prog = fun w => .ok (.string y) w := by funext w; rw [run_string_add_if, if_neg (by omega), HY.out]
      have hys : y.size ≤ 1048576 := by rw [← HY.out, ByteArray.size_append]; omega
      by_cases hcd : bu = bx
      · have hcd2 : ((bu.toNat : Int) == (bx.toNat : Int)) = true := by rw [hcd]; simp
        have hcd3 : ((bx.toNat : Int) == (bu.toNat : Int)) = true := by rw [hcd]; simp
        cases hA : avo l y
        · have HA := Lib.hid hA
          have HO := Lib.hid (anyT_no HX.out HT.out (by rw [HV.out, hA, Bool.and_false]))
          clear hA
          go_wp2
          go_quiet ((go_at_call 95; exact Calls.quiet_of_same (sAvoidsB _ l y _ _ (hLr.keep (below_drewN _ _)) HZ.out hys HA.out)))
          go_wp2
          go_quiet (fail)
          go_wp2
          go_roundw
          case rel => exact ⟨⟨j + 1, by omega, by go_num, HO⟩, by first | exact hd.drewN _ | exact (hd.drewN _).drewN _⟩
          case measure => simp [intOf]; omega
        · have HA := Lib.hid hA
          have HO := Lib.hid (anyT_yes (p := fol l u) HX.out (show fol l u x = true by rw [HV.out, hA, decide_eq_true hcd]; rfl))
          clear hA
          go_wp2
          go_quiet ((go_at_call 95; exact Calls.quiet_of_same (sAvoidsB _ l y _ _ (hLr.keep (below_drewN _ _)) HZ.out hys HA.out)))
          go_wp2
          go_ret
          exact ⟨ret_bool HO.out.symm, by first | exact hbr.trans ((Drawn.one _ _).below _) | exact hbr.trans (((Drawn.one _ _).drewN _).below _)⟩
      · have HO := Lib.hid (anyT_no HX.out HT.out (by rw [HV.out, decide_eq_false hcd, Bool.false_and]))
        have hne := u8_ne hcd
        have hne' := u8_ne (fun e => hcd e.symm)
        go_wp2
        go_quiet (fail)
        go_wp2
        go_quiet (fail)
        go_wp2
        go_roundw
        case rel => exact ⟨⟨j + 1, by omega, by go_num, HO⟩, by first | exact hd.drewN _ | exact (hd.drewN _).drewN _⟩
        case measure => simp [intOf]; omega
    · have HO := Lib.hid (anyT_end HL.out hlt HT.out)
      go_wp2
      go_ret
      exact ⟨ret_bool HO.out.symm, hbr⟩
set_option maxRecDepth 10000 in
set_option maxHeartbeats 800000 in
theorem sl3GoesF (k : Int) (v : Value) (l : List ByteArray) (vl : Value) (L : List ByteArray) (u : ByteArray) (w : World) (h : Strs w v l) (hz : ∀ x ∈ l, x.size ≤ 1048576) (hL : Strs w vl L) (hLz : ∀ x ∈ L, x.size = 2) (hu : u.size = 2) :
    Calls Tryz.prog 114 #[.agg #[.int .i64 k, v], vl, .string u, .bool false] w fun e w' => e = .returned (.bool (hasF (fol l) L u)) ∧ Below w.heap.size w w' := by
  have HZ := Lib.hid hz; clear hz
  have HLZ := Lib.hid hLz; clear hLz
  have hus1 : u.size ≤ 2 := by omega
  have hus2 : 1 < u.size := by omega
  have hus3 : 0 < u.size := by omega
  have hus4 : 1 ≤ u.size := by omega
  have hus5 : (1 : Int) ≤ (u.size : Int) := by omega
  have HU2 := Lib.hid hu; clear hu
  have hb0 := below_alloc w (.cells #[.int .i64 k, v] 41)
  have c1 : (w.alloc (.cells #[.int .i64 k, v] 41)).cell? ⟨w.heap.size, 1, none⟩ = some v := by simp
  obtain ⟨W0, hW0⟩ : ∃ W0, w.alloc (.cells #[.int .i64 k, v] 41) = W0 := ⟨_, rfl⟩
  have HW0 := Lib.hid hW0
  rw [hW0] at hb0 c1
  clear hW0
  obtain ⟨av, nv, cv, rfl, -⟩ := h.open
  obtain ⟨a, n, cap, rfl, HL, hn, HC⟩ := hL.open
  obtain ⟨bu, hbu, HBU, hbu9⟩ := byte_at hus3
  go_enter Tryz.func114, Tryz.ntmps114
  go_wp2
  go_loopw [9] (fun i wr => (∃ j : Nat, j ≤ n ∧ i = .int .i64 j ∧ Hid ((L.take j).any (fun v => fol l v u) = false)) ∧ Drawn W0 wr) (fun i _ => n - (intOf i).toNat)
  case atStart => exact ⟨⟨0, Nat.zero_le _, rfl, Lib.hid (by simp)⟩, by rw [HW0.out]; exact Drawn.refl _⟩
  case round =>
    obtain ⟨⟨j, hj, rfl, HT⟩, hd⟩ := hrel
    have hbr := hb0.trans (hd.below w.heap.size)
    have d1 := hd.cell c1
    have hLr : Strs wr (.slice av nv cv) l := h.keep hbr
    by_cases hlt : j < n
    · obtain ⟨b, off, x, rfl, hcx, HX⟩ := HC.out j hlt
      have hcx1 := cell_keep hbr hcx
      clear hcx
      have hxs1 : x.size ≤ 2 := by rw [HLZ.out x (List.mem_of_getElem? HX.out)]; omega
      have hxs2 : 1 < x.size := by rw [HLZ.out x (List.mem_of_getElem? HX.out)]; omega
      have hxs3 : 1 ≤ x.size := by omega
      have hxs0 : 0 < x.size := by omega
      have hxs4 : (1 : Int) ≤ (x.size : Int) := by omega
      have hxs5 : (1 : Int) < (x.size : Int) := by omega
      obtain ⟨bx, hbx, HBX, hbx9⟩ := byte_at hxs2
      obtain ⟨y, hy⟩ : ∃ y, x ++ u.extract 1 u.size = y := ⟨_, rfl⟩
      have HY := Lib.hid hy
      have HV : Hid (fol l x u = (decide (bx = bu) && avo l y)) := Lib.hid (fol_eq HBX.out HBU.out hy)
      clear hy
      have hxe : (u.extract 1 u.size).size ≤ 2 := by rw [ByteArray.size_extract]; omega
      have hadd : (Op.stringOp .add x (u.extract 1 u.size)).run Tryz.prog = fun w => .ok (.string y) w := by funext w; rw [run_string_add_if, if_neg (by omega), HY.out]
      have hys : y.size ≤ 1048576 := by rw [← HY.out, ByteArray.size_append]; omega
      by_cases hcd : bx = bu
      · have hcd2 : ((bu.toNat : Int) == (bx.toNat : Int)) = true := by rw [hcd]; simp
        have hcd3 : ((bx.toNat : Int) == (bu.toNat : Int)) = true := by rw [hcd]; simp
        cases hA : avo l y
        · have HA := Lib.hid hA
          have HO := Lib.hid (anyT_no HX.out HT.out (by rw [HV.out, hA, Bool.and_false]))
          clear hA
          go_wp2
          go_quiet (fail)
          go_wp2
          go_quiet ((go_at_call 95; exact (sAvoidsB _ l y _ _ (hLr.keep (below_drewN _ _)) HZ.out hys HA.out).mono fun _ _ h => ⟨h.1, _, h.2⟩))
          go_wp2
          go_roundw
          case rel => exact ⟨⟨j + 1, by omega, by go_num, HO⟩, by first | exact hd.drewN _ | exact (hd.drewN _).drewN _⟩
          case measure => simp [intOf]; omega
        · have HA := Lib.hid hA
          have HO := Lib.hid (anyT_yes (p := fun v => fol l v u) HX.out (show fol l x u = true by rw [HV.out, hA, decide_eq_true hcd]; rfl))
          clear hA
          go_wp2
          go_quiet (fail)
          go_wp2
          go_quiet ((go_at_call 95; exact (sAvoidsB _ l y _ _ (hLr.keep (below_drewN _ _)) HZ.out hys HA.out).mono fun _ _ h => ⟨h.1, _, h.2⟩))
          go_wp2
          go_ret
          exact ⟨ret_bool HO.out.symm, by first | exact hbr.trans ((Drawn.one _ _).below _) | exact hbr.trans (((Drawn.one _ _).drewN _).below _)⟩
      · have HO := Lib.hid (anyT_no HX.out HT.out (by rw [HV.out, decide_eq_false hcd, Bool.false_and]))
        have hne := u8_ne (fun e => hcd e.symm)
        have hne' := u8_ne hcd
        go_wp2
        go_quiet (fail)
        go_wp2
        go_quiet (fail)
        go_wp2
        go_roundw
        case rel => exact ⟨⟨j + 1, by omega, by go_num, HO⟩, by first | exact hd.drewN _ | exact (hd.drewN _).drewN _⟩
        case measure => simp [intOf]; omega
    · have HO := Lib.hid (anyT_end HL.out hlt HT.out)
      go_wp2
      go_ret
      exact ⟨ret_bool HO.out.symm, hbr⟩
end Go.Proofs.YtkohadoicebojaaGreatDoor

namespace Go.Proofs.YtkohadoicebojaaGreatDoor
open Go.RowKit Go.Deep
set_option linter.unusedSimpArgs false
theorem stays_no {R : ByteArray → ByteArray → Bool} {l : List ByteArray} {x : ByteArray} (h : hasN R l x = false) : stays R l x = false := by unfold stays; rw [h, Bool.false_and]
theorem stays_eq {R : ByteArray → ByteArray → Bool} {l : List ByteArray} {x : ByteArray} {b : Bool} (h : hasN R l x = true) (h2 : hasF R l x = b) : stays R l x = b := by unfold stays; rw [h, h2, Bool.true_and]
theorem filT_step {p : ByteArray → Bool} {l : List ByteArray} {j : Nat} {x : ByteArray} {b : Bool} (h : l[j]? = some x) (hp : p x = b) : filT p l (j + 1) = filT p l j ++ (if b = true then [x] else []) := by
  cases b
  · rw [filT_no h hp]; simp
  · rw [filT_yes h hp]; simp
set_option maxRecDepth 10000 in
set_option maxHeartbeats 1600000 in
theorem sl3Pairs (k : Nat) (v : Value) (l : List ByteArray) (w : World) (h : Strs w v l) (hz : ∀ x ∈ l, x.size ≤ 1048576) (hk1 : 1 ≤ k) (hk : k ≤ 3) :
    Calls Tryz.prog 85 #[.agg #[.int .i64 k, v]] w fun e w' => ∃ v', e = .returned v' ∧ OwnS 9 w.heap.size w' v' (pairs k l) ∧ Below w.heap.size w w' := by
  have HZ := Lib.hid hz; clear hz
  have hb0 := below_alloc w (.cells #[.int .i64 k, v] 41)
  have c0 : (w.alloc (.cells #[.int .i64 k, v] 41)).cell? ⟨w.heap.size, 0, none⟩ = some (.int .i64 k) := by simp
  have c1 : (w.alloc (.cells #[.int .i64 k, v] 41)).cell? ⟨w.heap.size, 1, none⟩ = some v := by simp
  have z0 : (w.alloc (.cells #[.int .i64 k, v] 41)).heap.size = w.heap.size + 1 := by simp
  have n9 := pairs0_len (f := l) hk
  have HPZ : Hid (∀ t, ∀ x ∈ stpN (fol l) (pairs0 k l) t, x.size = 2) := Lib.hid fun t x hx => (pairs0_in (stpN_sub _ _ t x hx)).1
  have HPL : Hid (∀ t, (stpN (fol l) (pairs0 k l) t).length ≤ 9) := Lib.hid fun t => Nat.le_trans (stpN_len _ _ t) n9
  obtain ⟨av, nv, cv, rfl, -⟩ := h.open
  go_enter Tryz.func85, Tryz.ntmps85
  go_wp2_with fail
  refine (sl3Words k _ l 2 _ (h.keep hb0) HZ.out hk1 hk (by omega)).mono ?_
  rintro e w2 ⟨v2, rfl, ho2, hb2⟩
  have q0 := cell_keep hb2 c0
  have q1 := cell_keep hb2 c1
  have b2 := hb0.trans (hb2.mono hb0.size)
  have z2 := hb2.size
  rw [z0] at z2
  have hS2 : Own 9 (w.heap.size + 1) w2 v2 (strs (stpN (fol l) (pairs0 k l) 0)) := by rw [z0] at ho2; exact ho2
  clear hb0 c0 c1 z0 hb2 ho2
  go_wp2
  go_loopg [3] 10 (fun gk o wr => ∃ t, Own 9 (w.heap.size + 1) wr o (strs (stpN (fol l) (pairs0 k l) t)) ∧ Below (w.heap.size + 1) w2 wr ∧ Hid ((stpN (fol l) (pairs0 k l) t).length < gk))
  case atStart => exact ⟨0, hS2, Below.refl _ _, Lib.hid (by have := HPL.out 0; omega)⟩
  case round =>
    clear hS2
    obtain ⟨t, ho, hbl, hgk⟩ := hrel
    obtain ⟨wo, rfl⟩ : ∃ wo : World, wo = wr := ⟨_, rfl⟩
    have hz9 := HPL.out t
    have HO2 : Hid (∀ x ∈ stpN (fol l) (pairs0 k l) t, x.size = 2) := Lib.hid (HPZ.out t)
    have HCO : Hid ((stpW (fol l) (stpN (fol l) (pairs0 k l) t)).length = (stpN (fol l) (pairs0 k l) t).length → stpN (fol l) (pairs0 k l) t = pairs k l) := Lib.hid fun h => core_of h
    have HNX : Hid (stpN (fol l) (pairs0 k l) (t + 1) = stpW (fol l) (stpN (fol l) (pairs0 k l) t)) := Lib.hid rfl
    obtain ⟨O, hO⟩ : ∃ O, stpN (fol l) (pairs0 k l) t = O := ⟨_, rfl⟩
    rw [hO] at ho hgk hz9 HO2 HCO HNX
    clear hO
    obtain ⟨M, hM⟩ : ∃ M, O.length = M := ⟨_, rfl⟩
    rw [hM] at hz9
    have HM := Lib.hid hM; clear hM
    obtain ⟨ao, co, rfl⟩ := ho.form (show (strs O).length = M by rw [strs_length]; exact HM.out)
    have hs := hbl.size
    have hOS : Strs wo (.slice ao M co) O := ho.row
    obtain ⟨a3, n3, c3, hv3, -, hn3, HC⟩ := hOS.open
    cases hv3
    have r0 : wo.cell? ⟨w.heap.size, 0, none⟩ = some (.int .i64 k) := by rw [hbl.cell (p := ⟨w.heap.size, 0, none⟩) (by simp)]; exact q0
    have r1 : wo.cell? ⟨w.heap.size, 1, none⟩ = some (.slice av nv cv) := by rw [hbl.cell (p := ⟨w.heap.size, 1, none⟩) (by simp)]; exact q1
    have hlo : Strs wo (.slice av nv cv) l := h.keep (b2.trans (hbl.mono (by omega)))
    go_wp2
    go_loopw [4, 5] (fun q j wq => ∃ j' : Nat, j' ≤ M ∧ j = .int .i64 j' ∧ Own 9 wo.heap.size wq q (strs (filT (stays (fol l) O) O j')) ∧ Below wo.heap.size wo wq) (fun _ j _ => M - (intOf j).toNat)
    case atStart => exact ⟨0, Nat.zero_le _, rfl, by rw [filT_zero]; exact Own.empty _ _, below_alloc _ _⟩
    case round =>
      obtain ⟨j, hj, rfl, hq, hbq⟩ := hrel
      have hsq := hbq.size
      by_cases hltj : j < M
      · obtain ⟨b, off, x, rfl, hcx, HX⟩ := HC.out j hltj
        have HXS : Hid (x.size = 2) := Lib.hid (HO2.out x (List.mem_of_getElem? HX.out))
        have d0 := cell_keep hbq r0
        have d1 := cell_keep hbq r1
        have dx := cell_keep hbq hcx
        clear hcx
        have hlw : Strs wr.drew (.slice av nv cv) l := hlo.keep hbq.drew
        have hOw : Strs wr.drew (.slice (some ⟨b, off, none⟩) M co) O := hOS.keep hbq.drew
        have hqd : Own 9 wo.heap.size wr.drew _ (strs (filT (stays (fol l) O) O j)) := hq
        have hbqd : Below wo.heap.size wo wr.drew := hbq.drew
        have d0d : wr.drew.cell? ⟨w.heap.size, 0, none⟩ = some (.int .i64 k) := d0
        have d1d : wr.drew.cell? ⟨w.heap.size, 1, none⟩ = some (.slice av nv cv) := d1
        have dxd : wr.drew.cell? ⟨b, off + j, none⟩ = some (.string x) := dx
        have HFL := Lib.hid (filT_len (stays (fol l) O) O j)
        cases hA : hasN (fol l) O x
        · have HA := Lib.hid hA
          have HS := Lib.hid (filT_no HX.out (stays_no hA))
          clear hA
          go_wp2
          refine wp_region_held_drew (S := (fun w' => w'.cell? ⟨w.heap.size, 0, none⟩ = some (.int .i64 k) ∧ w'.cell? ⟨w.heap.size, 1, none⟩ = some (.slice av nv cv) ∧ w'.cell? ⟨b, off + j, none⟩ = some (.string x))) (by kernel_rfl) ⟨d0d, d1d, dxd⟩ (fun hHeld => ?_)
          refine wpAnyH_take (i := 0) (v := .agg #[.int .i64 k, .slice av nv cv]) rfl (by kernel_rfl) (by kernel_rfl) (by kernel_rfl) (fun _ _ _ h => h) (Or.inl ⟨by rfl, ?_⟩) hHeld ?_
          · (intro w hSw; (try dsimp only at hSw); go_simp)
          (try simp only [List.getElem_toArray, List.getElem_cons_zero, List.getElem_cons_succ, Act.put, List.setIfInBounds_toArray, List.set_cons_zero, List.set_cons_succ])
          refine wpAnyH_take (i := 1) (v := .slice (some ⟨b, off, none⟩) M co) rfl (by kernel_rfl) (by kernel_rfl) (by kernel_rfl) (fun _ _ _ h => h) (Or.inl ⟨by rfl, ?_⟩) hHeld ?_
          · (intro w hSw; (try dsimp only at hSw); go_simp)
          (try simp only [List.getElem_toArray, List.getElem_cons_zero, List.getElem_cons_succ, Act.put, List.setIfInBounds_toArray, List.set_cons_zero, List.set_cons_succ])
          refine wpAnyH_take (i := 2) (v := .slice (some ⟨b, off, none⟩) M co) rfl (by kernel_rfl) (by kernel_rfl) (by kernel_rfl) (fun _ _ _ h => h) (Or.inl ⟨by rfl, ?_⟩) hHeld ?_
          · (intro w hSw; (try dsimp only at hSw); go_simp)
          (try simp only [List.getElem_toArray, List.getElem_cons_zero, List.getElem_cons_succ, Act.put, List.setIfInBounds_toArray, List.set_cons_zero, List.set_cons_succ])
          refine wpAnyH_take (i := 3) (v := .int .i64 j) rfl (by kernel_rfl) (by kernel_rfl) (by kernel_rfl) (fun _ _ _ h => h) (Or.inl ⟨by rfl, ?_⟩) hHeld ?_
          · (intro w hSw; (try dsimp only at hSw); go_simp)
          (try simp only [List.getElem_toArray, List.getElem_cons_zero, List.getElem_cons_succ, Act.put, List.setIfInBounds_toArray, List.set_cons_zero, List.set_cons_succ])
          refine wpAnyH_take (i := 4) (v := .pointer (some ⟨b, off + j, none⟩)) rfl (by kernel_rfl) (by kernel_rfl) (by kernel_rfl) (fun _ _ _ h => h) (Or.inl ⟨by rfl, ?_⟩) hHeld ?_
          · (intro w hSw; (try dsimp only at hSw); go_simp)
          (try simp only [List.getElem_toArray, List.getElem_cons_zero, List.getElem_cons_succ, Act.put, List.setIfInBounds_toArray, List.set_cons_zero, List.set_cons_succ])
          refine wpAnyH_take (i := 5) (v := .string x) rfl (by kernel_rfl) (by kernel_rfl) (by kernel_rfl) (fun _ _ _ h => h) (Or.inl ⟨by rfl, ?_⟩) hHeld ?_
          · (intro w hSw; (try dsimp only at hSw); go_simp)
          (try simp only [List.getElem_toArray, List.getElem_cons_zero, List.getElem_cons_succ, Act.put, List.setIfInBounds_toArray, List.set_cons_zero, List.set_cons_succ])
          refine wpAnyH_ready (rs := [6]) (by kernel_rfl) (by simp) ?_
          refine AllReadyH.cons rfl (fun K hK => ?_) AllReadyH.nil
          go_simp
          (go_at_call 114; refine (sl3GoesT k _ l _ O x _ hlw HZ.out hOw HO2.out HXS.out).mono ?_; rintro e w3 ⟨rfl, hb3⟩; rw [HA.out]; have e0 := cell_keep (w := wr.drew) hb3 d0d; have e1 := cell_keep (w := wr.drew) hb3 d1d; have ex := cell_keep (w := wr.drew) hb3 dxd)
          go_wp2_with fail
          refine hK.out _ _ ⟨e0, e1, ex⟩ (fun hHeld2 => ?_)
          (try simp only [List.getElem_toArray, List.getElem_cons_zero, List.getElem_cons_succ, Act.put, List.setIfInBounds_toArray, List.set_cons_zero, List.set_cons_succ])
          refine wpAnyH_take (i := 7) (v := .bool false) rfl (by kernel_rfl) (by kernel_rfl) (by kernel_rfl) (fun _ _ _ h => h) (Or.inl ⟨by rfl, ?_⟩) hHeld2 ?_
          · (intro w hSw; (try dsimp only at hSw); go_simp)
          (try simp only [List.getElem_toArray, List.getElem_cons_zero, List.getElem_cons_succ, Act.put, List.setIfInBounds_toArray, List.set_cons_zero, List.set_cons_succ])
          refine wpAnyH_take (i := 8) (v := undef) rfl (by kernel_rfl) (by kernel_rfl) (by kernel_rfl) (fun _ _ _ h => h) (Or.inr ⟨by rfl, rfl⟩) hHeld2 ?_
          (try simp only [List.getElem_toArray, List.getElem_cons_zero, List.getElem_cons_succ, Act.put, List.setIfInBounds_toArray, List.set_cons_zero, List.set_cons_succ])
          refine wpAnyH_take (i := 9) (v := undef) rfl (by kernel_rfl) (by kernel_rfl) (by kernel_rfl) (fun _ _ _ h => h) (Or.inr ⟨by rfl, rfl⟩) hHeld2 ?_
          (try simp only [List.getElem_toArray, List.getElem_cons_zero, List.getElem_cons_succ, Act.put, List.setIfInBounds_toArray, List.set_cons_zero, List.set_cons_succ])
          refine wpAnyH_take (i := 10) (v := undef) rfl (by kernel_rfl) (by kernel_rfl) (by kernel_rfl) (fun _ _ _ h => h) (Or.inr ⟨by rfl, rfl⟩) hHeld2 ?_
          (try simp only [List.getElem_toArray, List.getElem_cons_zero, List.getElem_cons_succ, Act.put, List.setIfInBounds_toArray, List.set_cons_zero, List.set_cons_succ])
          refine wpAnyH_take (i := 11) (v := undef) rfl (by kernel_rfl) (by kernel_rfl) (by kernel_rfl) (fun _ _ _ h => h) (Or.inr ⟨by rfl, rfl⟩) hHeld2 ?_
          (try simp only [List.getElem_toArray, List.getElem_cons_zero, List.getElem_cons_succ, Act.put, List.setIfInBounds_toArray, List.set_cons_zero, List.set_cons_succ])
          refine wpAnyH_take (i := 12) (v := undef) rfl (by kernel_rfl) (by kernel_rfl) (by kernel_rfl) (fun _ _ _ h => h) (Or.inr ⟨by rfl, rfl⟩) hHeld2 ?_
          (try simp only [List.getElem_toArray, List.getElem_cons_zero, List.getElem_cons_succ, Act.put, List.setIfInBounds_toArray, List.set_cons_zero, List.set_cons_succ])
          refine wpAnyH_take (i := 13) (v := undef) rfl (by kernel_rfl) (by kernel_rfl) (by kernel_rfl) (fun _ _ _ h => h) (Or.inr ⟨by rfl, rfl⟩) hHeld2 ?_
          (try simp only [List.getElem_toArray, List.getElem_cons_zero, List.getElem_cons_succ, Act.put, List.setIfInBounds_toArray, List.set_cons_zero, List.set_cons_succ])
          refine wpAnyH_take (i := 14) (v := undef) rfl (by kernel_rfl) (by kernel_rfl) (by kernel_rfl) (fun _ _ _ h => h) (Or.inr ⟨by rfl, rfl⟩) hHeld2 ?_
          (try simp only [List.getElem_toArray, List.getElem_cons_zero, List.getElem_cons_succ, Act.put, List.setIfInBounds_toArray, List.set_cons_zero, List.set_cons_succ])
          refine wpAnyH_take (i := 15) (v := .bool false) rfl (by kernel_rfl) (by kernel_rfl) (by kernel_rfl) (fun _ _ _ h => h) (Or.inl ⟨by rfl, ?_⟩) hHeld2 ?_
          · (intro w hSw; (try dsimp only at hSw); go_simp)
          (try simp only [List.getElem_toArray, List.getElem_cons_zero, List.getElem_cons_succ, Act.put, List.setIfInBounds_toArray, List.set_cons_zero, List.set_cons_succ])
          refine wpAnyH_done (by kernel_rfl) ?_ _
          all_goals
            have hb4 := hbqd.trans (hb3.mono hbqd.size)
            have hq4 := hqd.keep hb3
            clear hb3 hqd hbqd d0 d1 dx d0d d1d dxd hlw hOw e0 e1 ex
            go_wp2
            go_roundw
            case rel => exact ⟨j + 1, by omega, by go_num, by rw [HS.out]; exact hq4, hb4⟩
            case measure => simp [intOf]; omega
        · obtain ⟨bb, hB⟩ : ∃ bb, hasF (fol l) O x = bb := ⟨_, rfl⟩
          have HA := Lib.hid hA
          have HB := Lib.hid hB
          have HS := Lib.hid (filT_step HX.out (stays_eq hA hB))
          clear hA hB
          go_wp2
          refine wp_region_held_drew (S := (fun w' => w'.cell? ⟨w.heap.size, 0, none⟩ = some (.int .i64 k) ∧ w'.cell? ⟨w.heap.size, 1, none⟩ = some (.slice av nv cv) ∧ w'.cell? ⟨b, off + j, none⟩ = some (.string x))) (by kernel_rfl) ⟨d0d, d1d, dxd⟩ (fun hHeld => ?_)
          refine wpAnyH_take (i := 0) (v := .agg #[.int .i64 k, .slice av nv cv]) rfl (by kernel_rfl) (by kernel_rfl) (by kernel_rfl) (fun _ _ _ h => h) (Or.inl ⟨by rfl, ?_⟩) hHeld ?_
          · (intro w hSw; (try dsimp only at hSw); go_simp)
          (try simp only [List.getElem_toArray, List.getElem_cons_zero, List.getElem_cons_succ, Act.put, List.setIfInBounds_toArray, List.set_cons_zero, List.set_cons_succ])
          refine wpAnyH_take (i := 1) (v := .slice (some ⟨b, off, none⟩) M co) rfl (by kernel_rfl) (by kernel_rfl) (by kernel_rfl) (fun _ _ _ h => h) (Or.inl ⟨by rfl, ?_⟩) hHeld ?_
          · (intro w hSw; (try dsimp only at hSw); go_simp)
          (try simp only [List.getElem_toArray, List.getElem_cons_zero, List.getElem_cons_succ, Act.put, List.setIfInBounds_toArray, List.set_cons_zero, List.set_cons_succ])
          refine wpAnyH_take (i := 2) (v := .slice (some ⟨b, off, none⟩) M co) rfl (by kernel_rfl) (by kernel_rfl) (by kernel_rfl) (fun _ _ _ h => h) (Or.inl ⟨by rfl, ?_⟩) hHeld ?_
          · (intro w hSw; (try dsimp only at hSw); go_simp)
          (try simp only [List.getElem_toArray, List.getElem_cons_zero, List.getElem_cons_succ, Act.put, List.setIfInBounds_toArray, List.set_cons_zero, List.set_cons_succ])
          refine wpAnyH_take (i := 3) (v := .int .i64 j) rfl (by kernel_rfl) (by kernel_rfl) (by kernel_rfl) (fun _ _ _ h => h) (Or.inl ⟨by rfl, ?_⟩) hHeld ?_
          · (intro w hSw; (try dsimp only at hSw); go_simp)
          (try simp only [List.getElem_toArray, List.getElem_cons_zero, List.getElem_cons_succ, Act.put, List.setIfInBounds_toArray, List.set_cons_zero, List.set_cons_succ])
          refine wpAnyH_take (i := 4) (v := .pointer (some ⟨b, off + j, none⟩)) rfl (by kernel_rfl) (by kernel_rfl) (by kernel_rfl) (fun _ _ _ h => h) (Or.inl ⟨by rfl, ?_⟩) hHeld ?_
          · (intro w hSw; (try dsimp only at hSw); go_simp)
          (try simp only [List.getElem_toArray, List.getElem_cons_zero, List.getElem_cons_succ, Act.put, List.setIfInBounds_toArray, List.set_cons_zero, List.set_cons_succ])
          refine wpAnyH_take (i := 5) (v := .string x) rfl (by kernel_rfl) (by kernel_rfl) (by kernel_rfl) (fun _ _ _ h => h) (Or.inl ⟨by rfl, ?_⟩) hHeld ?_
          · (intro w hSw; (try dsimp only at hSw); go_simp)
          (try simp only [List.getElem_toArray, List.getElem_cons_zero, List.getElem_cons_succ, Act.put, List.setIfInBounds_toArray, List.set_cons_zero, List.set_cons_succ])
          refine wpAnyH_ready (rs := [6]) (by kernel_rfl) (by simp) ?_
          refine AllReadyH.cons rfl (fun K hK => ?_) AllReadyH.nil
          go_simp
          (go_at_call 114; refine (sl3GoesT k _ l _ O x _ hlw HZ.out hOw HO2.out HXS.out).mono ?_; rintro e w3 ⟨rfl, hb3⟩; rw [HA.out]; have e0 := cell_keep (w := wr.drew) hb3 d0d; have e1 := cell_keep (w := wr.drew) hb3 d1d; have ex := cell_keep (w := wr.drew) hb3 dxd; have hl3 := Strs.keep hlw hb3; have hO3 := Strs.keep hOw hb3)
          go_wp2_with fail
          refine hK.out _ _ ⟨e0, e1, ex⟩ (fun hHeld2 => ?_)
          (try simp only [List.getElem_toArray, List.getElem_cons_zero, List.getElem_cons_succ, Act.put, List.setIfInBounds_toArray, List.set_cons_zero, List.set_cons_succ])
          refine wpAnyH_take (i := 7) (v := .bool true) rfl (by kernel_rfl) (by kernel_rfl) (by kernel_rfl) (fun _ _ _ h => h) (Or.inl ⟨by rfl, ?_⟩) hHeld2 ?_
          · (intro w hSw; (try dsimp only at hSw); go_simp)
          (try simp only [List.getElem_toArray, List.getElem_cons_zero, List.getElem_cons_succ, Act.put, List.setIfInBounds_toArray, List.set_cons_zero, List.set_cons_succ])
          refine wpAnyH_take (i := 8) (v := .agg #[.int .i64 k, .slice av nv cv]) rfl (by kernel_rfl) (by kernel_rfl) (by kernel_rfl) (fun _ _ _ h => h) (Or.inl ⟨by rfl, ?_⟩) hHeld2 ?_
          · (intro w hSw; (try dsimp only at hSw); go_simp)
          (try simp only [List.getElem_toArray, List.getElem_cons_zero, List.getElem_cons_succ, Act.put, List.setIfInBounds_toArray, List.set_cons_zero, List.set_cons_succ])
          refine wpAnyH_take (i := 9) (v := .slice (some ⟨b, off, none⟩) M co) rfl (by kernel_rfl) (by kernel_rfl) (by kernel_rfl) (fun _ _ _ h => h) (Or.inl ⟨by rfl, ?_⟩) hHeld2 ?_
          · (intro w hSw; (try dsimp only at hSw); go_simp)
          (try simp only [List.getElem_toArray, List.getElem_cons_zero, List.getElem_cons_succ, Act.put, List.setIfInBounds_toArray, List.set_cons_zero, List.set_cons_succ])
          refine wpAnyH_take (i := 10) (v := .slice (some ⟨b, off, none⟩) M co) rfl (by kernel_rfl) (by kernel_rfl) (by kernel_rfl) (fun _ _ _ h => h) (Or.inl ⟨by rfl, ?_⟩) hHeld2 ?_
          · (intro w hSw; (try dsimp only at hSw); go_simp)
          (try simp only [List.getElem_toArray, List.getElem_cons_zero, List.getElem_cons_succ, Act.put, List.setIfInBounds_toArray, List.set_cons_zero, List.set_cons_succ])
          refine wpAnyH_take (i := 11) (v := .int .i64 j) rfl (by kernel_rfl) (by kernel_rfl) (by kernel_rfl) (fun _ _ _ h => h) (Or.inl ⟨by rfl, ?_⟩) hHeld2 ?_
          · (intro w hSw; (try dsimp only at hSw); go_simp)
          (try simp only [List.getElem_toArray, List.getElem_cons_zero, List.getElem_cons_succ, Act.put, List.setIfInBounds_toArray, List.set_cons_zero, List.set_cons_succ])
          refine wpAnyH_take (i := 12) (v := .pointer (some ⟨b, off + j, none⟩)) rfl (by kernel_rfl) (by kernel_rfl) (by kernel_rfl) (fun _ _ _ h => h) (Or.inl ⟨by rfl, ?_⟩) hHeld2 ?_
          · (intro w hSw; (try dsimp only at hSw); go_simp)
          (try simp only [List.getElem_toArray, List.getElem_cons_zero, List.getElem_cons_succ, Act.put, List.setIfInBounds_toArray, List.set_cons_zero, List.set_cons_succ])
          refine wpAnyH_take (i := 13) (v := .string x) rfl (by kernel_rfl) (by kernel_rfl) (by kernel_rfl) (fun _ _ _ h => h) (Or.inl ⟨by rfl, ?_⟩) hHeld2 ?_
          · (intro w hSw; (try dsimp only at hSw); go_simp)
          (try simp only [List.getElem_toArray, List.getElem_cons_zero, List.getElem_cons_succ, Act.put, List.setIfInBounds_toArray, List.set_cons_zero, List.set_cons_succ])
          refine wpAnyH_ready (rs := [14]) (by kernel_rfl) (by simp) ?_
          refine AllReadyH.cons rfl (fun K hK => ?_) AllReadyH.nil
          go_simp
          (go_at_call 114; refine (sl3GoesF k _ l _ O x _ hl3 HZ.out hO3 HO2.out HXS.out).mono ?_; rintro e w4 ⟨rfl, hb4⟩; rw [HB.out]; have f0 := cell_keep hb4 e0; have f1 := cell_keep hb4 e1; have fx := cell_keep hb4 ex)
          go_wp2_with fail
          refine hK.out _ _ ⟨f0, f1, fx⟩ (fun hHeld3 => ?_)
          (try simp only [List.getElem_toArray, List.getElem_cons_zero, List.getElem_cons_succ, Act.put, List.setIfInBounds_toArray, List.set_cons_zero, List.set_cons_succ])
          refine wpAnyH_take (i := 15) (v := .bool bb) rfl (by kernel_rfl) (by kernel_rfl) (by kernel_rfl) (fun _ _ _ h => h) (Or.inl ⟨by rfl, ?_⟩) hHeld3 ?_
          · (intro w hSw; (try dsimp only at hSw); go_simp)
          (try simp only [List.getElem_toArray, List.getElem_cons_zero, List.getElem_cons_succ, Act.put, List.setIfInBounds_toArray, List.set_cons_zero, List.set_cons_succ])
          refine wpAnyH_done (by kernel_rfl) ?_ _
          all_goals
            have hb5 := (hbqd.trans (hb3.mono hbqd.size)).trans (hb4.mono (Nat.le_trans hbqd.size hb3.size))
            have hq5 := (hqd.keep hb3).keep hb4
            have hs5 := hb5.size
            clear hb3 hb4 hqd hbqd d0 d1 dx d0d d1d dxd hlw hOw e0 e1 ex hl3 hO3 f0 f1
            cases bb
            · go_wp2
              go_roundw
              case rel => exact ⟨j + 1, by omega, by go_num, by rw [HS.out]; simpa using hq5, hb5⟩
              case measure => simp [intOf]; omega
            · go_wp2_with (at_builtin; refine app1 39 9 16 (.string ByteArray.empty) Tryz.underlying39 Tryz.infoStr rfl hq5 (.string x) rfl ?h1 ?h2 hs5 rfl _ _ rfl rfl rfl (by simp) ?_)
              case h1 => rw [strs_length]; have := HFL.out; unfold maxLen; omega
              case h2 => rw [strs_length]; have := HFL.out; omega
              intro q' w5 hq6 hg _
              go_wp2
              go_roundw
              case rel => exact ⟨j + 1, by omega, by go_num, by rw [HS.out, if_pos trivial, strs_append]; exact hq6, hb5.trans (hq5.below hg (Nat.le_refl _) hs5)⟩
              case measure => simp [intOf]; omega
      · have HFA : Hid (filT (stays (fol l) O) O j = stpW (fol l) O) := Lib.hid (filT_all HM.out hltj)
        rw [HFA.out] at hq
        have HLE := Lib.hid (stp_le (fol l) O)
        obtain ⟨N, hN⟩ : ∃ N, (stpW (fol l) O).length = N := ⟨_, rfl⟩
        have HN := Lib.hid hN
        clear hN
        obtain ⟨aq, cq, hqf⟩ := hq.form (show (strs (stpW (fol l) O)).length = N by rw [strs_length]; exact HN.out)
        subst hqf
        have hNM : N ≤ M := by have := HLE.out; have h1 := HN.out; have h2 := HM.out; omega
        have hbf : Below (w.heap.size + 1) w2 wr := hbl.trans (hbq.mono (by omega))
        by_cases hnm : N = M
        · have HPO : Hid (O = pairs k l) := Lib.hid (HCO.out (by rw [HN.out, HM.out, hnm]))
          have hoq := ho.keep hbq
          subst hnm
          go_wp2
          go_ret
          exact ⟨_, rfl, by rw [← HPO.out]; exact hoq.mono (by omega), b2.trans (hbf.mono (by omega))⟩
        · have hne : ((N : Int) == (M : Int)) = false := beq_eq_false_iff_ne.2 (by omega)
          go_wp2
          go_roundg (N + 1)
          case measure => have := hgk.out; rw [HM.out] at this; omega
          case rel => exact ⟨t + 1, by rw [HNX.out]; exact hq.mono (by omega), hbf, Lib.hid (by rw [HNX.out, HN.out]; omega)⟩
end Go.Proofs.YtkohadoicebojaaGreatDoor

namespace Go.Proofs.YtkohadoicebojaaGreatDoor
open Go.RowKit Go.Deep
theorem beqS (x y : ByteArray) : (x.toList == y.toList) = decide (x = y) := by
  by_cases h : x = y
  · subst h; simp
  · rw [beq_toList_ne h, decide_eq_false h]
def eqT (x y : ByteArray) : Bool := decide (y = x)
theorem hasText_eq (l : List ByteArray) (x : ByteArray) : hasText l x = l.any (eqT x) := rfl
theorem anyT_step {p : ByteArray → Bool} {l : List ByteArray} {j : Nat} {x : ByteArray} {b : Bool} (h : l[j]? = some x) (hb : (l.take j).any p = b) {d : Bool} (hd : p x = d) : (l.take (j + 1)).any p = (b || d) := by
  rw [take_snoc h, List.any_append, hb]; simp [hd]
theorem anyT_all {p : ByteArray → Bool} {l : List ByteArray} {n j : Nat} (hl : l.length = n) (hj : ¬ j < n) {b : Bool} (hb : (l.take j).any p = b) : l.any p = b := by rwa [List.take_of_length_le (by omega)] at hb
set_option maxRecDepth 10000 in
set_option maxHeartbeats 400000 in
theorem sHasText (v : Value) (l : List ByteArray) (x : ByteArray) (b : Bool) (w : World) (h : Strs w v l) (hb : hasText l x = b) :
    Calls Tryz.prog 115 #[v, .string x] w fun e w' => e = .returned (.bool b) ∧ w' = w := by
  obtain ⟨a, n, cap, rfl, HL, hn, HC⟩ := h.open
  have HB := Lib.hid hb; clear hb h
  go_enter Tryz.func115, Tryz.ntmps115
  go_wp2
  go_loop [5] (fun i => ∃ j : Nat, j ≤ n ∧ i = .int .i64 j ∧ Hid ((l.take j).any (eqT x) = false)) (fun i => n - (intOf i).toNat)
  case atStart => exact ⟨0, Nat.zero_le _, rfl, Lib.hid (by simp)⟩
  case round =>
    obtain ⟨j, hj, rfl, HT⟩ := hrel
    by_cases hlt : j < n
    · obtain ⟨b0, off, u, rfl, hc, HX⟩ := HC.out j hlt
      by_cases hux : u = x
      · have HO : Hid (b = true) := Lib.hid (by rw [← HB.out, hasText_eq]; exact anyT_yes HX.out (decide_eq_true hux))
        subst hux
        go_wp2
        go_ret
        exact ⟨ret_bool HO.out.symm, rfl⟩
      · have HO := Lib.hid (anyT_no HX.out HT.out (show eqT x u = false from decide_eq_false hux))
        have hne := beq_toList_ne hux
        go_wp2
        go_round
        case rel => exact ⟨j + 1, by omega, by go_num, HO⟩
        case measure => simp [intOf]; omega
    · have HO : Hid (b = false) := Lib.hid (by rw [← HB.out, hasText_eq]; exact anyT_end HL.out hlt HT.out)
      go_wp2
      go_ret
      exact ⟨ret_bool HO.out.symm, rfl⟩
set_option maxRecDepth 10000 in
set_option maxHeartbeats 800000 in
theorem ihas (k : Nat) (c : Int) (v : Value) (l : List ByteArray) (vs : Value) (x : ByteArray) (w : World) (hm : Ml w) (h : Strs w v l) (hS : Strs w vs (pairs k l)) (hx : x.size ≤ 1048576) :
    Calls Tryz.prog 92 #[.agg #[.int .i64 c, v], vs, .string x] w fun e w' => e = .returned (.bool (inL k l x)) ∧ Below w.heap.size w w' := by
  have hb0 := below_alloc w (.cells #[.int .i64 c, v] 41)
  have c0 : (w.alloc (.cells #[.int .i64 c, v] 41)).cell? ⟨w.heap.size, 0, none⟩ = some (.int .i64 c) := by simp
  have c1 : (w.alloc (.cells #[.int .i64 c, v] 41)).cell? ⟨w.heap.size, 1, none⟩ = some v := by simp
  have HPS : Hid (∀ u ∈ pairs k l, u.size = 2) := Lib.hid fun u hu => (pairs_in hu).1
  obtain ⟨av, nv, cv, rfl, -⟩ := h.open
  by_cases hs2 : (x.size : Int) < 2
  · have HI := Lib.hid (inL_small (k := k) (f := l) (x := x) (by omega))
    obtain ⟨a, n, cap, rfl, HL, hn, HC⟩ := hS.open
    obtain ⟨mx, hmx⟩ := hm.keep hb0
    clear h hS c0 c1
    go_enter Tryz.func92, Tryz.ntmps92
    go_wp2
    go_loop [18] (fun i => ∃ j : Nat, j ≤ n ∧ i = .int .i64 j ∧ Hid (((pairs k l).take j).any (fun u => occ u x) = false)) (fun i => n - (intOf i).toNat)
    case atStart => exact ⟨0, Nat.zero_le _, rfl, Lib.hid (by simp)⟩
    case round =>
      obtain ⟨j, hj, rfl, HT⟩ := hrel
      by_cases hlt : j < n
      · obtain ⟨b0, off, u, rfl, hcu, HX⟩ := HC.out j hlt
        have hc' := fun o => cell_keep (below_alloc w o) hcu
        have hus : u.size < 4294967281 := by rw [HPS.out u (List.mem_of_getElem? HX.out)]; omega
        clear hcu
        cases ho : occ u x
        · have HO := Lib.hid ho
          have HN := Lib.hid (anyT_no (p := fun u => occ u x) HX.out HT.out ho); clear ho
          go_wp2_with (go_at_call 118; refine (Tryz.strings_Contains u x mx _ hus hmx).mono ?_; rintro e w' ⟨rfl, rfl⟩; rw [show Lib.contains u.data.toList x.data.toList = false from HO.out])
          go_round
          case rel => exact ⟨j + 1, by omega, by go_num, HN⟩
          case measure => simp [intOf]; omega
        · have HO := Lib.hid ho
          have HN := Lib.hid (anyT_yes (p := fun u => occ u x) HX.out ho); clear ho
          go_wp2_with (go_at_call 118; refine (Tryz.strings_Contains u x mx _ hus hmx).mono ?_; rintro e w' ⟨rfl, rfl⟩; rw [show Lib.contains u.data.toList x.data.toList = true from HO.out])
          go_ret
          exact ⟨ret_bool (by rw [HI.out, HN.out]), hb0⟩
      · have HN := Lib.hid (anyT_end HL.out hlt HT.out)
        go_wp2
        go_ret
        exact ⟨ret_bool (by rw [HI.out, HN.out]), hb0⟩
  have hs2' : 2 ≤ x.size := by omega
  cases hA : avo l x
  · have HI := Lib.hid (inL_no (k := k) hA)
    have HA := Lib.hid hA
    clear hA
    obtain ⟨a, n, cap, rfl, -⟩ := hS.open
    go_enter Tryz.func92, Tryz.ntmps92
    go_wp2_with fail
    refine (iavoids c _ l x _ (hm.keep hb0) (h.keep hb0) hx).mono ?_
    rintro e w2 ⟨rfl, hb2⟩
    rw [HA.out]
    go_wp2
    go_ret
    exact ⟨ret_bool HI.out.symm, hb0.trans (hb2.mono hb0.size)⟩
  · have HI := Lib.hid (inL_big (k := k) hs2' hA)
    have HA := Lib.hid hA
    clear hA
    obtain ⟨a, n, cap, rfl, HL, hn, -⟩ := hS.open
    have hw2 : IntKind.i64.wrap ((x.size : Int) - 2) = ((x.size - 2 : Nat) : Int) := by rw [IntKind.wrap_i64]; omega
    have hle : x.size - 2 ≤ x.size := by omega
    have hle2 : ((x.size - 2 : Nat) : Int) ≤ (x.size : Int) := by omega
    have hle3 : (0 : Int) ≤ ((x.size - 2 : Nat) : Int) := by omega
    obtain ⟨X1, hX1⟩ : ∃ X1, x.extract 0 2 = X1 := ⟨_, rfl⟩
    obtain ⟨X2, hX2⟩ : ∃ X2, x.extract (x.size - 2) x.size = X2 := ⟨_, rfl⟩
    rw [hX1, hX2] at HI
    go_enter Tryz.func92, Tryz.ntmps92
    go_wp2_with fail
    refine (iavoids c _ l x _ (hm.keep hb0) (h.keep hb0) hx).mono ?_
    rintro e w2 ⟨rfl, hb2⟩
    rw [HA.out]
    have b2 := hb0.trans (hb2.mono hb0.size)
    obtain ⟨a3, n3, c3, hv3, -, -, HC⟩ := (hS.keep b2).open
    cases hv3
    clear hb2 hb0 c0 c1 hS h hm
    go_wp2
    go_loop [9, 10, 32] (fun p q i => ∃ (j : Nat) (f g : Bool), j ≤ n ∧ i = .int .i64 j ∧ p = .bool f ∧ q = .bool g ∧ Hid (((pairs k l).take j).any (eqT X1) = f) ∧ Hid (((pairs k l).take j).any (eqT X2) = g)) (fun _ _ i => n - (intOf i).toNat)
    case atStart => exact ⟨0, false, false, Nat.zero_le _, rfl, rfl, rfl, Lib.hid (by simp), Lib.hid (by simp)⟩
    case round =>
      obtain ⟨j, f, g, hj, rfl, rfl, rfl, HF, HG⟩ := hrel
      by_cases hlt : j < n
      · obtain ⟨b0, off, u, rfl, hcu, HX⟩ := HC.out j hlt
        obtain ⟨d1, hd1⟩ : ∃ d, eqT X1 u = d := ⟨_, rfl⟩
        obtain ⟨d2, hd2⟩ : ∃ d, eqT X2 u = d := ⟨_, rfl⟩
        have HF2 := Lib.hid (anyT_step HX.out HF.out hd1)
        have HG2 := Lib.hid (anyT_step HX.out HG.out hd2)
        have hq1 : (u.toList == X1.toList) = d1 := by rw [beqS, ← hd1]; rfl
        have hq2 : (u.toList == X2.toList) = d2 := by rw [beqS, ← hd2]; rfl
        clear hd1 hd2
        cases f <;> cases g <;> (
          go_wp2
          go_round
          (case rel => exact ⟨j + 1, _, _, by omega, by go_num, rfl, rfl, by simpa using HF2, by simpa using HG2⟩)
          (case measure => simp [intOf]; omega))
      · have HF2 := Lib.hid (anyT_all HL.out hlt HF.out)
        have HG2 := Lib.hid (anyT_all HL.out hlt HG.out)
        cases f <;> cases g <;> (
          go_wp2
          go_ret
          exact ⟨ret_bool (by rw [HI.out, hasText_eq, hasText_eq, HF2.out, HG2.out]; rfl), b2⟩)
end Go.Proofs.YtkohadoicebojaaGreatDoor

namespace Go.Proofs.YtkohadoicebojaaGreatDoor
open Go.RowKit Go.Deep
set_option linter.unusedSimpArgs false
set_option maxRecDepth 10000 in
set_option maxHeartbeats 800000 in
theorem sl3In (k : Nat) (c : Int) (v : Value) (l : List ByteArray) (vs : Value) (x : ByteArray) (w : World) (h : Strs w v l) (hz : ∀ y ∈ l, y.size ≤ 1048576) (hS : Strs w vs (pairs k l)) (hx : x.size ≤ 1048576) :
    Calls Tryz.prog 87 #[.agg #[.int .i64 c, v], vs, .string x] w fun e w' => e = .returned (.bool (inL k l x)) ∧ Below w.heap.size w w' := by
  have HZ := Lib.hid hz; clear hz
  have hb0 := below_alloc w (.cells #[.int .i64 c, v] 41)
  have c1 : (w.alloc (.cells #[.int .i64 c, v] 41)).cell? ⟨w.heap.size, 1, none⟩ = some v := by simp
  have HPS : Hid (∀ u ∈ pairs k l, u.size = 2) := Lib.hid fun u hu => (pairs_in hu).1
  have hL0 := h.keep hb0
  have hS0 := hS.keep hb0
  obtain ⟨av, nv, cv, rfl, -⟩ := h.open
  obtain ⟨a, n, cap, rfl, HL, hn, HC⟩ := hS0.open
  by_cases hn0 : n = 0
  · have HI := Lib.hid (inL_none (x := x) (k := k) (f := l) (List.length_eq_zero_iff.1 (by rw [HL.out, hn0])))
    subst hn0
    go_enter Tryz.func87, Tryz.ntmps87
    go_wp2
    go_ret
    exact ⟨ret_bool HI.out.symm, hb0⟩
  have hne0 : ((n : Int) == 0) = false := beq_eq_false_iff_ne.2 (by omega)
  cases hA : avo l x
  · have HI := Lib.hid (inL_no (k := k) hA)
    have HA := Lib.hid hA
    clear hA
    go_enter Tryz.func87, Tryz.ntmps87
    go_wp2_with (go_at_call 95; refine (sAvoidsB _ l x _ _ hL0 HZ.out hx HA.out).mono ?_; rintro e w2 ⟨rfl, rfl⟩)
    go_ret
    exact ⟨ret_bool HI.out.symm, hb0⟩
  by_cases hs2 : (x.size : Int) < 2
  · have HI := Lib.hid (inL_small (k := k) (f := l) (x := x) (by omega))
    have HA := Lib.hid hA
    clear hA
    go_enter Tryz.func87, Tryz.ntmps87
    go_wp2_with (go_at_call 95; refine (sAvoidsB _ l x _ _ hL0 HZ.out hx HA.out).mono ?_; rintro e w2 ⟨rfl, rfl⟩)
    go_loop [7] (fun i => ∃ j : Nat, j ≤ n ∧ i = .int .i64 j ∧ Hid (((pairs k l).take j).any (fun u => occ u x) = false)) (fun i => n - (intOf i).toNat)
    case atStart => exact ⟨0, Nat.zero_le _, rfl, Lib.hid (by simp)⟩
    case round =>
      obtain ⟨j, hj, rfl, HT⟩ := hrel
      by_cases hlt : j < n
      · obtain ⟨b0, off, u, rfl, hcu, HX⟩ := HC.out j hlt
        have hus : u.size ≤ 1048576 := by rw [HPS.out u (List.mem_of_getElem? HX.out)]; omega
        cases ho : occ u x
        · have HO := Lib.hid ho
          have HN := Lib.hid (anyT_no (p := fun u => occ u x) HX.out HT.out ho); clear ho
          go_wp2_with (go_at_call 116; refine (sOccursIn u x _ hus hx).mono ?_; rintro e w' ⟨rfl, rfl⟩; rw [HO.out])
          go_round
          case rel => exact ⟨j + 1, by omega, by go_num, HN⟩
          case measure => simp [intOf]; omega
        · have HO := Lib.hid ho
          have HN := Lib.hid (anyT_yes (p := fun u => occ u x) HX.out ho); clear ho
          go_wp2_with (go_at_call 116; refine (sOccursIn u x _ hus hx).mono ?_; rintro e w' ⟨rfl, rfl⟩; rw [HO.out])
          go_ret
          exact ⟨ret_bool (by rw [HI.out, HN.out]), hb0⟩
      · have HN := Lib.hid (anyT_end HL.out hlt HT.out)
        go_wp2
        go_ret
        exact ⟨ret_bool (by rw [HI.out, HN.out]), hb0⟩
  · have hs2' : 2 ≤ x.size := by omega
    have HI := Lib.hid (inL_big (k := k) hs2' hA)
    have HA := Lib.hid hA
    clear hA
    have hw2 : IntKind.i64.wrap ((x.size : Int) - 2) = ((x.size - 2 : Nat) : Int) := by rw [IntKind.wrap_i64]; omega
    have hle : x.size - 2 ≤ x.size := by omega
    have hle2 : ((x.size - 2 : Nat) : Int) ≤ (x.size : Int) := by omega
    have hle3 : (0 : Int) ≤ ((x.size - 2 : Nat) : Int) := by omega
    obtain ⟨X1, hX1⟩ : ∃ X1, x.extract 0 2 = X1 := ⟨_, rfl⟩
    obtain ⟨X2, hX2⟩ : ∃ X2, x.extract (x.size - 2) x.size = X2 := ⟨_, rfl⟩
    rw [hX1, hX2] at HI
    obtain ⟨f, hf⟩ : ∃ f, hasText (pairs k l) X1 = f := ⟨_, rfl⟩
    obtain ⟨g, hg⟩ : ∃ g, hasText (pairs k l) X2 = g := ⟨_, rfl⟩
    have HF := Lib.hid hf
    have HG := Lib.hid hg
    rw [hf, hg] at HI
    clear hf hg HC
    cases f
    · go_enter Tryz.func87, Tryz.ntmps87
      go_wp2_with (first | (go_at_call 95; refine (sAvoidsB _ l x _ _ hL0 HZ.out hx HA.out).mono ?_; rintro e w2 ⟨rfl, rfl⟩) | (go_at_call 115; refine (sHasText _ _ X1 _ _ hS0 HF.out).mono ?_; rintro e w2 ⟨rfl, rfl⟩))
      go_ret
      exact ⟨ret_bool (by rw [HI.out]; rfl), hb0⟩
    · go_enter Tryz.func87, Tryz.ntmps87
      go_wp2_with fail
      refine (sAvoidsB _ l x _ _ hL0 HZ.out hx HA.out).mono ?_
      rintro e w2 ⟨rfl, rfl⟩
      go_wp2_with fail
      refine (sHasText _ _ X1 _ _ hS0 HF.out).mono ?_
      rintro e w2 ⟨rfl, rfl⟩
      go_wp2_with fail
      refine (sHasText _ _ X2 _ _ hS0 HG.out).mono ?_
      rintro e w2 ⟨rfl, rfl⟩
      go_wp2
      go_ret
      exact ⟨ret_bool (by rw [HI.out]; cases g <;> rfl), hb0⟩
theorem inLang_1 {k : Int} {l : List ByteArray} {s : ByteArray} (h : isShift k l = false) : inLang k l s = false := by unfold inLang; rw [h]; rfl
theorem inLang_2 {k : Int} {l : List ByteArray} {s : ByteArray} (h : isWord k s = false) : inLang k l s = false := by unfold inLang; rw [h, Bool.false_and, Bool.and_false]
theorem inLang_3 {k : Nat} {l : List ByteArray} {s : ByteArray} (h : isShift k l = true) (h2 : isWord k s = true) : inLang k l s = inL k l s := by unfold inLang; rw [h, h2, Int.toNat_natCast]; rfl
theorem isEmptyS_1 {k : Int} {l : List ByteArray} (h : isShift k l = false) : isEmptyS k l = false := by unfold isEmptyS; rw [h]; rfl
theorem isEmptyS_2 {k n : Nat} {l : List ByteArray} (h : isShift k l = true) (hn : (pairs k l).length = n) : isEmptyS k l = decide (n = 0) := by unfold isEmptyS; rw [h, Int.toNat_natCast, hn]; rfl
set_option maxRecDepth 10000 in
set_option maxHeartbeats 800000 in
theorem sInLanguage (k : Int) (v : Value) (l : List ByteArray) (s : ByteArray) (w : World) (h : Strs w v l) (hz : ∀ x ∈ l, x.size ≤ 1048576) (hs : s.size ≤ 1048576) :
    Calls Tryz.prog 41 #[.agg #[.int .i64 k, v], .string s] w fun e w' => e = .returned (.bool (inLang k l s)) ∧ Below w.heap.size w w' := by
  have hb := below_alloc w (.cells #[.int .i64 k, v] 41)
  have hbd : Below w.heap.size w (w.alloc (.cells #[.int .i64 k, v] 41)).drew := hb.drew
  have c0d : (w.alloc (.cells #[.int .i64 k, v] 41)).drew.cell? ⟨w.heap.size, 0, none⟩ = some (.int .i64 k) := by simp
  have c1d : (w.alloc (.cells #[.int .i64 k, v] 41)).drew.cell? ⟨w.heap.size, 1, none⟩ = some v := by simp
  obtain ⟨a, n, cap, rfl, -⟩ := h.open
  cases hS : isShift k l
  · have HO := Lib.hid (inLang_1 (s := s) hS)
    have HS := Lib.hid hS; clear hS
    go_enter Tryz.func41, Tryz.ntmps41
    go_wp2
    refine wp_region_held_drew (S := (fun w' => w'.cell? ⟨w.heap.size, 0, none⟩ = some (.int .i64 k) ∧ w'.cell? ⟨w.heap.size, 1, none⟩ = some (.slice a n cap))) (by kernel_rfl) ⟨c0d, c1d⟩ (fun hHeld => ?_)
    refine wpAnyH_take (i := 0) (v := .agg #[.int .i64 k, .slice a n cap]) rfl (by kernel_rfl) (by kernel_rfl) (by kernel_rfl) (fun _ _ _ h => h) (Or.inl ⟨by rfl, ?_⟩) hHeld ?_
    · (intro w hSw; (try dsimp only at hSw); go_simp)
    (try simp only [List.getElem_toArray, List.getElem_cons_zero, List.getElem_cons_succ, Act.put, List.setIfInBounds_toArray, List.set_cons_zero, List.set_cons_succ])
    refine wpAnyH_ready (rs := [1]) (by kernel_rfl) (by simp) ?_
    refine AllReadyH.cons rfl (fun Kx hKx => ?_) AllReadyH.nil
    go_simp
    (go_at_call 47; refine (sIsShift k _ l _ (h.keep hbd) hz).mono ?_; rintro e w1 ⟨rfl, hb1⟩; rw [HS.out]; have d0 := cell_keep hb1 c0d; have d1 := cell_keep hb1 c1d; have b1 : Below w.heap.size w w1 := hbd.trans (hb1.mono hbd.size))
    go_wp2_with fail
    refine hKx.out _ _ ⟨d0, d1⟩ (fun hHeld2 => ?_)
    (try simp only [List.getElem_toArray, List.getElem_cons_zero, List.getElem_cons_succ, Act.put, List.setIfInBounds_toArray, List.set_cons_zero, List.set_cons_succ])
    refine wpAnyH_take (i := 2) (v := .bool false) rfl (by kernel_rfl) (by kernel_rfl) (by kernel_rfl) (fun _ _ _ h => h) (Or.inl ⟨by rfl, ?_⟩) hHeld2 ?_
    · (intro w hSw; (try dsimp only at hSw); go_simp)
    (try simp only [List.getElem_toArray, List.getElem_cons_zero, List.getElem_cons_succ, Act.put, List.setIfInBounds_toArray, List.set_cons_zero, List.set_cons_succ])
    refine wpAnyH_take (i := 3) (v := undef) rfl (by kernel_rfl) (by kernel_rfl) (by kernel_rfl) (fun _ _ _ h => h) (Or.inr ⟨by rfl, rfl⟩) hHeld2 ?_
    (try simp only [List.getElem_toArray, List.getElem_cons_zero, List.getElem_cons_succ, Act.put, List.setIfInBounds_toArray, List.set_cons_zero, List.set_cons_succ])
    refine wpAnyH_take (i := 4) (v := undef) rfl (by kernel_rfl) (by kernel_rfl) (by kernel_rfl) (fun _ _ _ h => h) (Or.inr ⟨by rfl, rfl⟩) hHeld2 ?_
    (try simp only [List.getElem_toArray, List.getElem_cons_zero, List.getElem_cons_succ, Act.put, List.setIfInBounds_toArray, List.set_cons_zero, List.set_cons_succ])
    refine wpAnyH_take (i := 5) (v := undef) rfl (by kernel_rfl) (by kernel_rfl) (by kernel_rfl) (fun _ _ _ h => h) (Or.inr ⟨by rfl, rfl⟩) hHeld2 ?_
    (try simp only [List.getElem_toArray, List.getElem_cons_zero, List.getElem_cons_succ, Act.put, List.setIfInBounds_toArray, List.set_cons_zero, List.set_cons_succ])
    refine wpAnyH_take (i := 6) (v := undef) rfl (by kernel_rfl) (by kernel_rfl) (by kernel_rfl) (fun _ _ _ h => h) (Or.inr ⟨by rfl, rfl⟩) hHeld2 ?_
    (try simp only [List.getElem_toArray, List.getElem_cons_zero, List.getElem_cons_succ, Act.put, List.setIfInBounds_toArray, List.set_cons_zero, List.set_cons_succ])
    refine wpAnyH_take (i := 7) (v := .bool false) rfl (by kernel_rfl) (by kernel_rfl) (by kernel_rfl) (fun _ _ _ h => h) (Or.inl ⟨by rfl, ?_⟩) hHeld2 ?_
    · (intro w hSw; (try dsimp only at hSw); go_simp)
    (try simp only [List.getElem_toArray, List.getElem_cons_zero, List.getElem_cons_succ, Act.put, List.setIfInBounds_toArray, List.set_cons_zero, List.set_cons_succ])
    refine wpAnyH_take (i := 8) (v := .bool false) rfl (by kernel_rfl) (by kernel_rfl) (by kernel_rfl) (fun _ _ _ h => h) (Or.inl ⟨by rfl, ?_⟩) hHeld2 ?_
    · (intro w hSw; (try dsimp only at hSw); go_simp)
    (try simp only [List.getElem_toArray, List.getElem_cons_zero, List.getElem_cons_succ, Act.put, List.setIfInBounds_toArray, List.set_cons_zero, List.set_cons_succ])
    refine wpAnyH_take (i := 9) (v := undef) rfl (by kernel_rfl) (by kernel_rfl) (by kernel_rfl) (fun _ _ _ h => h) (Or.inr ⟨by rfl, rfl⟩) hHeld2 ?_
    (try simp only [List.getElem_toArray, List.getElem_cons_zero, List.getElem_cons_succ, Act.put, List.setIfInBounds_toArray, List.set_cons_zero, List.set_cons_succ])
    refine wpAnyH_take (i := 10) (v := undef) rfl (by kernel_rfl) (by kernel_rfl) (by kernel_rfl) (fun _ _ _ h => h) (Or.inr ⟨by rfl, rfl⟩) hHeld2 ?_
    (try simp only [List.getElem_toArray, List.getElem_cons_zero, List.getElem_cons_succ, Act.put, List.setIfInBounds_toArray, List.set_cons_zero, List.set_cons_succ])
    refine wpAnyH_take (i := 11) (v := undef) rfl (by kernel_rfl) (by kernel_rfl) (by kernel_rfl) (fun _ _ _ h => h) (Or.inr ⟨by rfl, rfl⟩) hHeld2 ?_
    (try simp only [List.getElem_toArray, List.getElem_cons_zero, List.getElem_cons_succ, Act.put, List.setIfInBounds_toArray, List.set_cons_zero, List.set_cons_succ])
    refine wpAnyH_take (i := 12) (v := undef) rfl (by kernel_rfl) (by kernel_rfl) (by kernel_rfl) (fun _ _ _ h => h) (Or.inr ⟨by rfl, rfl⟩) hHeld2 ?_
    (try simp only [List.getElem_toArray, List.getElem_cons_zero, List.getElem_cons_succ, Act.put, List.setIfInBounds_toArray, List.set_cons_zero, List.set_cons_succ])
    refine wpAnyH_take (i := 13) (v := undef) rfl (by kernel_rfl) (by kernel_rfl) (by kernel_rfl) (fun _ _ _ h => h) (Or.inr ⟨by rfl, rfl⟩) hHeld2 ?_
    (try simp only [List.getElem_toArray, List.getElem_cons_zero, List.getElem_cons_succ, Act.put, List.setIfInBounds_toArray, List.set_cons_zero, List.set_cons_succ])
    refine wpAnyH_take (i := 14) (v := .bool false) rfl (by kernel_rfl) (by kernel_rfl) (by kernel_rfl) (fun _ _ _ h => h) (Or.inl ⟨by rfl, ?_⟩) hHeld2 ?_
    · (intro w hSw; (try dsimp only at hSw); go_simp)
    (try simp only [List.getElem_toArray, List.getElem_cons_zero, List.getElem_cons_succ, Act.put, List.setIfInBounds_toArray, List.set_cons_zero, List.set_cons_succ])
    refine wpAnyH_take (i := 15) (v := .bool false) rfl (by kernel_rfl) (by kernel_rfl) (by kernel_rfl) (fun _ _ _ h => h) (Or.inl ⟨by rfl, ?_⟩) hHeld2 ?_
    · (intro w hSw; (try dsimp only at hSw); go_simp)
    (try simp only [List.getElem_toArray, List.getElem_cons_zero, List.getElem_cons_succ, Act.put, List.setIfInBounds_toArray, List.set_cons_zero, List.set_cons_succ])
    refine wpAnyH_done (by kernel_rfl) ?_ _
    go_wp2
    go_ret
    exact ⟨ret_bool HO.out.symm, b1⟩
  have hk := isShift_letters hS
  obtain ⟨K, rfl⟩ : ∃ K : Nat, k = K := ⟨k.toNat, by omega⟩
  cases hW : isWord K s
  · have HO := Lib.hid (inLang_2 (l := l) hW)
    have HS := Lib.hid hS
    have HW := Lib.hid hW; clear hS hW
    go_enter Tryz.func41, Tryz.ntmps41
    go_wp2
    refine wp_region_held_drew (S := (fun w' => w'.cell? ⟨w.heap.size, 0, none⟩ = some (.int .i64 K) ∧ w'.cell? ⟨w.heap.size, 1, none⟩ = some (.slice a n cap))) (by kernel_rfl) ⟨c0d, c1d⟩ (fun hHeld => ?_)
    refine wpAnyH_take (i := 0) (v := .agg #[.int .i64 K, .slice a n cap]) rfl (by kernel_rfl) (by kernel_rfl) (by kernel_rfl) (fun _ _ _ h => h) (Or.inl ⟨by rfl, ?_⟩) hHeld ?_
    · (intro w hSw; (try dsimp only at hSw); go_simp)
    (try simp only [List.getElem_toArray, List.getElem_cons_zero, List.getElem_cons_succ, Act.put, List.setIfInBounds_toArray, List.set_cons_zero, List.set_cons_succ])
    refine wpAnyH_ready (rs := [1]) (by kernel_rfl) (by simp) ?_
    refine AllReadyH.cons rfl (fun Kx hKx => ?_) AllReadyH.nil
    go_simp
    (go_at_call 47; refine (sIsShift (K : Int) _ l _ (h.keep hbd) hz).mono ?_; rintro e w1 ⟨rfl, hb1⟩; rw [HS.out]; have d0 := cell_keep hb1 c0d; have d1 := cell_keep hb1 c1d; have b1 : Below w.heap.size w w1 := hbd.trans (hb1.mono hbd.size))
    go_wp2_with fail
    refine hKx.out _ _ ⟨d0, d1⟩ (fun hHeld2 => ?_)
    (try simp only [List.getElem_toArray, List.getElem_cons_zero, List.getElem_cons_succ, Act.put, List.setIfInBounds_toArray, List.set_cons_zero, List.set_cons_succ])
    refine wpAnyH_take (i := 2) (v := .bool true) rfl (by kernel_rfl) (by kernel_rfl) (by kernel_rfl) (fun _ _ _ h => h) (Or.inl ⟨by rfl, ?_⟩) hHeld2 ?_
    · (intro w hSw; (try dsimp only at hSw); go_simp)
    (try simp only [List.getElem_toArray, List.getElem_cons_zero, List.getElem_cons_succ, Act.put, List.setIfInBounds_toArray, List.set_cons_zero, List.set_cons_succ])
    refine wpAnyH_take (i := 3) (v := .pointer (some ⟨w.heap.size, 0, none⟩)) rfl (by kernel_rfl) (by kernel_rfl) (by kernel_rfl) (fun _ _ _ h => h) (Or.inl ⟨by rfl, ?_⟩) hHeld2 ?_
    · (intro w hSw; (try dsimp only at hSw); go_simp)
    (try simp only [List.getElem_toArray, List.getElem_cons_zero, List.getElem_cons_succ, Act.put, List.setIfInBounds_toArray, List.set_cons_zero, List.set_cons_succ])
    refine wpAnyH_take (i := 4) (v := .int .i64 K) rfl (by kernel_rfl) (by kernel_rfl) (by kernel_rfl) (fun _ _ _ h => h) (Or.inl ⟨by rfl, ?_⟩) hHeld2 ?_
    · (intro w hSw; (try dsimp only at hSw); go_simp)
    (try simp only [List.getElem_toArray, List.getElem_cons_zero, List.getElem_cons_succ, Act.put, List.setIfInBounds_toArray, List.set_cons_zero, List.set_cons_succ])
    refine wpAnyH_take (i := 5) (v := .string s) rfl (by kernel_rfl) (by kernel_rfl) (by kernel_rfl) (fun _ _ _ h => h) (Or.inl ⟨by rfl, ?_⟩) hHeld2 ?_
    · (intro w hSw; (try dsimp only at hSw); go_simp)
    (try simp only [List.getElem_toArray, List.getElem_cons_zero, List.getElem_cons_succ, Act.put, List.setIfInBounds_toArray, List.set_cons_zero, List.set_cons_succ])
    refine wpAnyH_ready (rs := [6]) (by kernel_rfl) (by simp) ?_
    refine AllReadyH.cons rfl (fun Kx hKx => ?_) AllReadyH.nil
    go_simp
    (go_at_call 94; refine (sIsWord _ _ _ hs).mono ?_; rintro e w' ⟨rfl, rfl⟩; rw [HW.out])
    go_wp2_with fail
    refine hKx.out _ _ ⟨d0, d1⟩ (fun hHeld3 => ?_)
    (try simp only [List.getElem_toArray, List.getElem_cons_zero, List.getElem_cons_succ, Act.put, List.setIfInBounds_toArray, List.set_cons_zero, List.set_cons_succ])
    refine wpAnyH_take (i := 7) (v := .bool false) rfl (by kernel_rfl) (by kernel_rfl) (by kernel_rfl) (fun _ _ _ h => h) (Or.inl ⟨by rfl, ?_⟩) hHeld3 ?_
    · (intro w hSw; (try dsimp only at hSw); go_simp)
    (try simp only [List.getElem_toArray, List.getElem_cons_zero, List.getElem_cons_succ, Act.put, List.setIfInBounds_toArray, List.set_cons_zero, List.set_cons_succ])
    refine wpAnyH_take (i := 8) (v := .bool false) rfl (by kernel_rfl) (by kernel_rfl) (by kernel_rfl) (fun _ _ _ h => h) (Or.inl ⟨by rfl, ?_⟩) hHeld3 ?_
    · (intro w hSw; (try dsimp only at hSw); go_simp)
    (try simp only [List.getElem_toArray, List.getElem_cons_zero, List.getElem_cons_succ, Act.put, List.setIfInBounds_toArray, List.set_cons_zero, List.set_cons_succ])
    refine wpAnyH_take (i := 9) (v := undef) rfl (by kernel_rfl) (by kernel_rfl) (by kernel_rfl) (fun _ _ _ h => h) (Or.inr ⟨by rfl, rfl⟩) hHeld3 ?_
    (try simp only [List.getElem_toArray, List.getElem_cons_zero, List.getElem_cons_succ, Act.put, List.setIfInBounds_toArray, List.set_cons_zero, List.set_cons_succ])
    refine wpAnyH_take (i := 10) (v := undef) rfl (by kernel_rfl) (by kernel_rfl) (by kernel_rfl) (fun _ _ _ h => h) (Or.inr ⟨by rfl, rfl⟩) hHeld3 ?_
    (try simp only [List.getElem_toArray, List.getElem_cons_zero, List.getElem_cons_succ, Act.put, List.setIfInBounds_toArray, List.set_cons_zero, List.set_cons_succ])
    refine wpAnyH_take (i := 11) (v := undef) rfl (by kernel_rfl) (by kernel_rfl) (by kernel_rfl) (fun _ _ _ h => h) (Or.inr ⟨by rfl, rfl⟩) hHeld3 ?_
    (try simp only [List.getElem_toArray, List.getElem_cons_zero, List.getElem_cons_succ, Act.put, List.setIfInBounds_toArray, List.set_cons_zero, List.set_cons_succ])
    refine wpAnyH_take (i := 12) (v := undef) rfl (by kernel_rfl) (by kernel_rfl) (by kernel_rfl) (fun _ _ _ h => h) (Or.inr ⟨by rfl, rfl⟩) hHeld3 ?_
    (try simp only [List.getElem_toArray, List.getElem_cons_zero, List.getElem_cons_succ, Act.put, List.setIfInBounds_toArray, List.set_cons_zero, List.set_cons_succ])
    refine wpAnyH_take (i := 13) (v := undef) rfl (by kernel_rfl) (by kernel_rfl) (by kernel_rfl) (fun _ _ _ h => h) (Or.inr ⟨by rfl, rfl⟩) hHeld3 ?_
    (try simp only [List.getElem_toArray, List.getElem_cons_zero, List.getElem_cons_succ, Act.put, List.setIfInBounds_toArray, List.set_cons_zero, List.set_cons_succ])
    refine wpAnyH_take (i := 14) (v := .bool false) rfl (by kernel_rfl) (by kernel_rfl) (by kernel_rfl) (fun _ _ _ h => h) (Or.inl ⟨by rfl, ?_⟩) hHeld3 ?_
    · (intro w hSw; (try dsimp only at hSw); go_simp)
    (try simp only [List.getElem_toArray, List.getElem_cons_zero, List.getElem_cons_succ, Act.put, List.setIfInBounds_toArray, List.set_cons_zero, List.set_cons_succ])
    refine wpAnyH_take (i := 15) (v := .bool false) rfl (by kernel_rfl) (by kernel_rfl) (by kernel_rfl) (fun _ _ _ h => h) (Or.inl ⟨by rfl, ?_⟩) hHeld3 ?_
    · (intro w hSw; (try dsimp only at hSw); go_simp)
    (try simp only [List.getElem_toArray, List.getElem_cons_zero, List.getElem_cons_succ, Act.put, List.setIfInBounds_toArray, List.set_cons_zero, List.set_cons_succ])
    refine wpAnyH_done (by kernel_rfl) ?_ _
    go_wp2
    go_ret
    exact ⟨ret_bool HO.out.symm, b1⟩
  · have HO0 := Lib.hid (inLang_3 hS hW)
    obtain ⟨r, hr⟩ : ∃ r, inL K l s = r := ⟨_, rfl⟩
    have HO := Lib.hid hr
    rw [hr] at HO0
    clear hr
    have HS := Lib.hid hS
    have HW := Lib.hid hW; clear hS hW
    go_enter Tryz.func41, Tryz.ntmps41
    go_wp2
    refine wp_region_held_drew (S := (fun w' => w'.cell? ⟨w.heap.size, 0, none⟩ = some (.int .i64 K) ∧ w'.cell? ⟨w.heap.size, 1, none⟩ = some (.slice a n cap))) (by kernel_rfl) ⟨c0d, c1d⟩ (fun hHeld => ?_)
    refine wpAnyH_take (i := 0) (v := .agg #[.int .i64 K, .slice a n cap]) rfl (by kernel_rfl) (by kernel_rfl) (by kernel_rfl) (fun _ _ _ h => h) (Or.inl ⟨by rfl, ?_⟩) hHeld ?_
    · (intro w hSw; (try dsimp only at hSw); go_simp)
    (try simp only [List.getElem_toArray, List.getElem_cons_zero, List.getElem_cons_succ, Act.put, List.setIfInBounds_toArray, List.set_cons_zero, List.set_cons_succ])
    refine wpAnyH_ready (rs := [1]) (by kernel_rfl) (by simp) ?_
    refine AllReadyH.cons rfl (fun Kx hKx => ?_) AllReadyH.nil
    go_simp
    (go_at_call 47; refine (sIsShift (K : Int) _ l _ (h.keep hbd) hz).mono ?_; rintro e w1 ⟨rfl, hb1⟩; rw [HS.out]; have d0 := cell_keep hb1 c0d; have d1 := cell_keep hb1 c1d; have b1 : Below w.heap.size w w1 := hbd.trans (hb1.mono hbd.size))
    go_wp2_with fail
    refine hKx.out _ _ ⟨d0, d1⟩ (fun hHeld2 => ?_)
    (try simp only [List.getElem_toArray, List.getElem_cons_zero, List.getElem_cons_succ, Act.put, List.setIfInBounds_toArray, List.set_cons_zero, List.set_cons_succ])
    refine wpAnyH_take (i := 2) (v := .bool true) rfl (by kernel_rfl) (by kernel_rfl) (by kernel_rfl) (fun _ _ _ h => h) (Or.inl ⟨by rfl, ?_⟩) hHeld2 ?_
    · (intro w hSw; (try dsimp only at hSw); go_simp)
    (try simp only [List.getElem_toArray, List.getElem_cons_zero, List.getElem_cons_succ, Act.put, List.setIfInBounds_toArray, List.set_cons_zero, List.set_cons_succ])
    refine wpAnyH_take (i := 3) (v := .pointer (some ⟨w.heap.size, 0, none⟩)) rfl (by kernel_rfl) (by kernel_rfl) (by kernel_rfl) (fun _ _ _ h => h) (Or.inl ⟨by rfl, ?_⟩) hHeld2 ?_
    · (intro w hSw; (try dsimp only at hSw); go_simp)
    (try simp only [List.getElem_toArray, List.getElem_cons_zero, List.getElem_cons_succ, Act.put, List.setIfInBounds_toArray, List.set_cons_zero, List.set_cons_succ])
    refine wpAnyH_take (i := 4) (v := .int .i64 K) rfl (by kernel_rfl) (by kernel_rfl) (by kernel_rfl) (fun _ _ _ h => h) (Or.inl ⟨by rfl, ?_⟩) hHeld2 ?_
    · (intro w hSw; (try dsimp only at hSw); go_simp)
    (try simp only [List.getElem_toArray, List.getElem_cons_zero, List.getElem_cons_succ, Act.put, List.setIfInBounds_toArray, List.set_cons_zero, List.set_cons_succ])
    refine wpAnyH_take (i := 5) (v := .string s) rfl (by kernel_rfl) (by kernel_rfl) (by kernel_rfl) (fun _ _ _ h => h) (Or.inl ⟨by rfl, ?_⟩) hHeld2 ?_
    · (intro w hSw; (try dsimp only at hSw); go_simp)
    (try simp only [List.getElem_toArray, List.getElem_cons_zero, List.getElem_cons_succ, Act.put, List.setIfInBounds_toArray, List.set_cons_zero, List.set_cons_succ])
    refine wpAnyH_ready (rs := [6]) (by kernel_rfl) (by simp) ?_
    refine AllReadyH.cons rfl (fun Kx hKx => ?_) AllReadyH.nil
    go_simp
    (go_at_call 94; refine (sIsWord _ _ _ hs).mono ?_; rintro e w' ⟨rfl, rfl⟩; rw [HW.out])
    go_wp2_with fail
    refine hKx.out _ _ ⟨d0, d1⟩ (fun hHeld3 => ?_)
    (try simp only [List.getElem_toArray, List.getElem_cons_zero, List.getElem_cons_succ, Act.put, List.setIfInBounds_toArray, List.set_cons_zero, List.set_cons_succ])
    refine wpAnyH_take (i := 7) (v := .bool true) rfl (by kernel_rfl) (by kernel_rfl) (by kernel_rfl) (fun _ _ _ h => h) (Or.inl ⟨by rfl, ?_⟩) hHeld3 ?_
    · (intro w hSw; (try dsimp only at hSw); go_simp)
    (try simp only [List.getElem_toArray, List.getElem_cons_zero, List.getElem_cons_succ, Act.put, List.setIfInBounds_toArray, List.set_cons_zero, List.set_cons_succ])
    refine wpAnyH_take (i := 8) (v := .bool true) rfl (by kernel_rfl) (by kernel_rfl) (by kernel_rfl) (fun _ _ _ h => h) (Or.inl ⟨by rfl, ?_⟩) hHeld3 ?_
    · (intro w hSw; (try dsimp only at hSw); go_simp)
    (try simp only [List.getElem_toArray, List.getElem_cons_zero, List.getElem_cons_succ, Act.put, List.setIfInBounds_toArray, List.set_cons_zero, List.set_cons_succ])
    refine wpAnyH_take (i := 9) (v := .agg #[.int .i64 K, .slice a n cap]) rfl (by kernel_rfl) (by kernel_rfl) (by kernel_rfl) (fun _ _ _ h => h) (Or.inl ⟨by rfl, ?_⟩) hHeld3 ?_
    · (intro w hSw; (try dsimp only at hSw); go_simp)
    (try simp only [List.getElem_toArray, List.getElem_cons_zero, List.getElem_cons_succ, Act.put, List.setIfInBounds_toArray, List.set_cons_zero, List.set_cons_succ])
    refine wpAnyH_take (i := 10) (v := .agg #[.int .i64 K, .slice a n cap]) rfl (by kernel_rfl) (by kernel_rfl) (by kernel_rfl) (fun _ _ _ h => h) (Or.inl ⟨by rfl, ?_⟩) hHeld3 ?_
    · (intro w hSw; (try dsimp only at hSw); go_simp)
    (try simp only [List.getElem_toArray, List.getElem_cons_zero, List.getElem_cons_succ, Act.put, List.setIfInBounds_toArray, List.set_cons_zero, List.set_cons_succ])
    refine wpAnyH_take (i := 12) (v := .string s) rfl (by kernel_rfl) (by kernel_rfl) (by kernel_rfl) (fun _ _ _ h => h) (Or.inl ⟨by rfl, ?_⟩) hHeld3 ?_
    · (intro w hSw; (try dsimp only at hSw); go_simp)
    (try simp only [List.getElem_toArray, List.getElem_cons_zero, List.getElem_cons_succ, Act.put, List.setIfInBounds_toArray, List.set_cons_zero, List.set_cons_succ])
    refine wpAnyH_ready (rs := [11]) (by kernel_rfl) (by simp) ?_
    refine AllReadyH.cons rfl (fun Kx hKx => ?_) AllReadyH.nil
    go_simp
    (go_at_call 85; refine (sl3Pairs K _ l _ (h.keep b1) hz (by omega) (by omega)).mono ?_; rintro e w2 ⟨v2, rfl, ho2, hb2⟩; have b2 : Below w.heap.size w w2 := b1.trans (hb2.mono b1.size); have e0 := cell_keep hb2 d0; have e1 := cell_keep hb2 d1)
    go_wp2_with fail
    refine hKx.out _ _ ⟨e0, e1⟩ (fun hHeld4 => ?_)
    (try simp only [List.getElem_toArray, List.getElem_cons_zero, List.getElem_cons_succ, Act.put, List.setIfInBounds_toArray, List.set_cons_zero, List.set_cons_succ])
    refine wpAnyH_ready (rs := [13]) (by kernel_rfl) (by simp) ?_
    refine AllReadyH.cons rfl (fun Kx hKx => ?_) AllReadyH.nil
    go_simp
    (go_at_call 87; refine (sl3In K (K : Int) _ l _ s _ (h.keep b2) hz ho2.strs hs).mono ?_; rintro e w3 ⟨rfl, hb3⟩; rw [HO.out]; have f0 := cell_keep hb3 e0; have f1 := cell_keep hb3 e1; have b3 : Below w.heap.size w w3 := b2.trans (hb3.mono b2.size))
    go_wp2_with fail
    refine hKx.out _ _ ⟨f0, f1⟩ (fun hHeld5 => ?_)
    (try simp only [List.getElem_toArray, List.getElem_cons_zero, List.getElem_cons_succ, Act.put, List.setIfInBounds_toArray, List.set_cons_zero, List.set_cons_succ])
    refine wpAnyH_take (i := 14) (v := .bool r) rfl (by kernel_rfl) (by kernel_rfl) (by kernel_rfl) (fun _ _ _ h => h) (Or.inl ⟨by rfl, ?_⟩) hHeld5 ?_
    · (intro w hSw; (try dsimp only at hSw); go_simp)
    (try simp only [List.getElem_toArray, List.getElem_cons_zero, List.getElem_cons_succ, Act.put, List.setIfInBounds_toArray, List.set_cons_zero, List.set_cons_succ])
    refine wpAnyH_take (i := 15) (v := .bool r) rfl (by kernel_rfl) (by kernel_rfl) (by kernel_rfl) (fun _ _ _ h => h) (Or.inl ⟨by rfl, ?_⟩) hHeld5 ?_
    · (intro w hSw; (try dsimp only at hSw); go_simp)
    (try simp only [List.getElem_toArray, List.getElem_cons_zero, List.getElem_cons_succ, Act.put, List.setIfInBounds_toArray, List.set_cons_zero, List.set_cons_succ])
    refine wpAnyH_done (by kernel_rfl) ?_ _
    go_wp2
    go_ret
    exact ⟨ret_bool HO0.out.symm, b3⟩
set_option maxRecDepth 10000 in
set_option maxHeartbeats 400000 in
theorem sIsEmptyShift (k : Int) (v : Value) (l : List ByteArray) (w : World) (h : Strs w v l) (hz : ∀ x ∈ l, x.size ≤ 1048576) :
    Calls Tryz.prog 45 #[.agg #[.int .i64 k, v]] w fun e w' => e = .returned (.bool (isEmptyS k l)) ∧ Below w.heap.size w w' := by
  have hb := below_alloc w (.cells #[.int .i64 k, v] 41)
  have c0 : (w.alloc (.cells #[.int .i64 k, v] 41)).cell? ⟨w.heap.size, 0, none⟩ = some (.int .i64 k) := by simp
  have c1 : (w.alloc (.cells #[.int .i64 k, v] 41)).cell? ⟨w.heap.size, 1, none⟩ = some v := by simp
  obtain ⟨a, n, cap, rfl, -⟩ := h.open
  go_enter Tryz.func45, Tryz.ntmps45
  go_wp2_with fail
  refine (sIsShift k _ l _ (h.keep hb) hz).mono ?_
  rintro e w1 ⟨rfl, hb1⟩
  have d0 := cell_keep hb1 c0
  have d1 := cell_keep hb1 c1
  have b1 := hb.trans (hb1.mono (by simp))
  clear c0 c1 hb hb1
  cases hS : isShift k l
  · have HO := Lib.hid (isEmptyS_1 hS); clear hS
    go_wp2
    go_ret
    exact ⟨ret_bool HO.out.symm, b1⟩
  have hk := isShift_letters hS
  obtain ⟨K, rfl⟩ : ∃ K : Nat, k = K := ⟨k.toNat, by omega⟩
  obtain ⟨m, hm9⟩ : ∃ m, (pairs K l).length = m := ⟨_, rfl⟩
  have HO := Lib.hid (isEmptyS_2 hS hm9)
  have HM := Lib.hid hm9; clear hS hm9
  go_wp2_with fail
  refine (sl3Pairs K _ l _ (h.keep b1) hz (by omega) (by omega)).mono ?_
  rintro e w2 ⟨v2, rfl, ho2, hb2⟩
  have b2 := b1.trans (hb2.mono b1.size)
  obtain ⟨a2, c2, rfl⟩ := Own.form ho2 (show (strs (pairs K l)).length = m by rw [strs_length]; exact HM.out)
  have hbq : ((m : Int) == 0) = decide (m = 0) := beq_cast m 0
  go_wp2
  go_ret
  exact ⟨ret_bool HO.out.symm, b2⟩
set_option maxRecDepth 10000 in
set_option maxHeartbeats 800000 in
theorem iInLanguage (k : Int) (v : Value) (l : List ByteArray) (s : ByteArray) (w : World) (hm : Ml w) (h : Strs w v l) (hz : ∀ x ∈ l, x.size ≤ 1048576) (hs : s.size ≤ 1048576) :
    Calls Tryz.prog 40 #[.agg #[.int .i64 k, v], .string s] w fun e w' => e = .returned (.bool (inLang k l s)) ∧ Below w.heap.size w w' := by
  have hb := below_alloc w (.cells #[.int .i64 k, v] 41)
  have hbd : Below w.heap.size w (w.alloc (.cells #[.int .i64 k, v] 41)).drew := hb.drew
  have c0d : (w.alloc (.cells #[.int .i64 k, v] 41)).drew.cell? ⟨w.heap.size, 0, none⟩ = some (.int .i64 k) := by simp
  have c1d : (w.alloc (.cells #[.int .i64 k, v] 41)).drew.cell? ⟨w.heap.size, 1, none⟩ = some v := by simp
  obtain ⟨a, n, cap, rfl, -⟩ := h.open
  cases hS : isShift k l
  · have HO := Lib.hid (inLang_1 (s := s) hS)
    have HS := Lib.hid hS; clear hS
    go_enter Tryz.func40, Tryz.ntmps40
    go_wp2
    refine wp_region_held_drew (S := (fun w' => w'.cell? ⟨w.heap.size, 0, none⟩ = some (.int .i64 k) ∧ w'.cell? ⟨w.heap.size, 1, none⟩ = some (.slice a n cap))) (by kernel_rfl) ⟨c0d, c1d⟩ (fun hHeld => ?_)
    refine wpAnyH_take (i := 0) (v := .agg #[.int .i64 k, .slice a n cap]) rfl (by kernel_rfl) (by kernel_rfl) (by kernel_rfl) (fun _ _ _ h => h) (Or.inl ⟨by rfl, ?_⟩) hHeld ?_
    · (intro w hSw; (try dsimp only at hSw); go_simp)
    (try simp only [List.getElem_toArray, List.getElem_cons_zero, List.getElem_cons_succ, Act.put, List.setIfInBounds_toArray, List.set_cons_zero, List.set_cons_succ])
    refine wpAnyH_ready (rs := [1]) (by kernel_rfl) (by simp) ?_
    refine AllReadyH.cons rfl (fun Kx hKx => ?_) AllReadyH.nil
    go_simp
    (go_at_call 46; refine (iIsShift k _ l _ (h.keep hbd) hz).mono ?_; rintro e w1 ⟨rfl, hb1⟩; rw [HS.out]; have d0 := cell_keep hb1 c0d; have d1 := cell_keep hb1 c1d; have b1 : Below w.heap.size w w1 := hbd.trans (hb1.mono hbd.size))
    go_wp2_with fail
    refine hKx.out _ _ ⟨d0, d1⟩ (fun hHeld2 => ?_)
    (try simp only [List.getElem_toArray, List.getElem_cons_zero, List.getElem_cons_succ, Act.put, List.setIfInBounds_toArray, List.set_cons_zero, List.set_cons_succ])
    refine wpAnyH_take (i := 2) (v := .bool false) rfl (by kernel_rfl) (by kernel_rfl) (by kernel_rfl) (fun _ _ _ h => h) (Or.inl ⟨by rfl, ?_⟩) hHeld2 ?_
    · (intro w hSw; (try dsimp only at hSw); go_simp)
    (try simp only [List.getElem_toArray, List.getElem_cons_zero, List.getElem_cons_succ, Act.put, List.setIfInBounds_toArray, List.set_cons_zero, List.set_cons_succ])
    refine wpAnyH_take (i := 3) (v := undef) rfl (by kernel_rfl) (by kernel_rfl) (by kernel_rfl) (fun _ _ _ h => h) (Or.inr ⟨by rfl, rfl⟩) hHeld2 ?_
    (try simp only [List.getElem_toArray, List.getElem_cons_zero, List.getElem_cons_succ, Act.put, List.setIfInBounds_toArray, List.set_cons_zero, List.set_cons_succ])
    refine wpAnyH_take (i := 4) (v := undef) rfl (by kernel_rfl) (by kernel_rfl) (by kernel_rfl) (fun _ _ _ h => h) (Or.inr ⟨by rfl, rfl⟩) hHeld2 ?_
    (try simp only [List.getElem_toArray, List.getElem_cons_zero, List.getElem_cons_succ, Act.put, List.setIfInBounds_toArray, List.set_cons_zero, List.set_cons_succ])
    refine wpAnyH_take (i := 5) (v := undef) rfl (by kernel_rfl) (by kernel_rfl) (by kernel_rfl) (fun _ _ _ h => h) (Or.inr ⟨by rfl, rfl⟩) hHeld2 ?_
    (try simp only [List.getElem_toArray, List.getElem_cons_zero, List.getElem_cons_succ, Act.put, List.setIfInBounds_toArray, List.set_cons_zero, List.set_cons_succ])
    refine wpAnyH_take (i := 6) (v := undef) rfl (by kernel_rfl) (by kernel_rfl) (by kernel_rfl) (fun _ _ _ h => h) (Or.inr ⟨by rfl, rfl⟩) hHeld2 ?_
    (try simp only [List.getElem_toArray, List.getElem_cons_zero, List.getElem_cons_succ, Act.put, List.setIfInBounds_toArray, List.set_cons_zero, List.set_cons_succ])
    refine wpAnyH_take (i := 7) (v := .bool false) rfl (by kernel_rfl) (by kernel_rfl) (by kernel_rfl) (fun _ _ _ h => h) (Or.inl ⟨by rfl, ?_⟩) hHeld2 ?_
    · (intro w hSw; (try dsimp only at hSw); go_simp)
    (try simp only [List.getElem_toArray, List.getElem_cons_zero, List.getElem_cons_succ, Act.put, List.setIfInBounds_toArray, List.set_cons_zero, List.set_cons_succ])
    refine wpAnyH_take (i := 8) (v := .bool false) rfl (by kernel_rfl) (by kernel_rfl) (by kernel_rfl) (fun _ _ _ h => h) (Or.inl ⟨by rfl, ?_⟩) hHeld2 ?_
    · (intro w hSw; (try dsimp only at hSw); go_simp)
    (try simp only [List.getElem_toArray, List.getElem_cons_zero, List.getElem_cons_succ, Act.put, List.setIfInBounds_toArray, List.set_cons_zero, List.set_cons_succ])
    refine wpAnyH_take (i := 9) (v := undef) rfl (by kernel_rfl) (by kernel_rfl) (by kernel_rfl) (fun _ _ _ h => h) (Or.inr ⟨by rfl, rfl⟩) hHeld2 ?_
    (try simp only [List.getElem_toArray, List.getElem_cons_zero, List.getElem_cons_succ, Act.put, List.setIfInBounds_toArray, List.set_cons_zero, List.set_cons_succ])
    refine wpAnyH_take (i := 10) (v := undef) rfl (by kernel_rfl) (by kernel_rfl) (by kernel_rfl) (fun _ _ _ h => h) (Or.inr ⟨by rfl, rfl⟩) hHeld2 ?_
    (try simp only [List.getElem_toArray, List.getElem_cons_zero, List.getElem_cons_succ, Act.put, List.setIfInBounds_toArray, List.set_cons_zero, List.set_cons_succ])
    refine wpAnyH_take (i := 11) (v := undef) rfl (by kernel_rfl) (by kernel_rfl) (by kernel_rfl) (fun _ _ _ h => h) (Or.inr ⟨by rfl, rfl⟩) hHeld2 ?_
    (try simp only [List.getElem_toArray, List.getElem_cons_zero, List.getElem_cons_succ, Act.put, List.setIfInBounds_toArray, List.set_cons_zero, List.set_cons_succ])
    refine wpAnyH_take (i := 12) (v := undef) rfl (by kernel_rfl) (by kernel_rfl) (by kernel_rfl) (fun _ _ _ h => h) (Or.inr ⟨by rfl, rfl⟩) hHeld2 ?_
    (try simp only [List.getElem_toArray, List.getElem_cons_zero, List.getElem_cons_succ, Act.put, List.setIfInBounds_toArray, List.set_cons_zero, List.set_cons_succ])
    refine wpAnyH_take (i := 13) (v := undef) rfl (by kernel_rfl) (by kernel_rfl) (by kernel_rfl) (fun _ _ _ h => h) (Or.inr ⟨by rfl, rfl⟩) hHeld2 ?_
    (try simp only [List.getElem_toArray, List.getElem_cons_zero, List.getElem_cons_succ, Act.put, List.setIfInBounds_toArray, List.set_cons_zero, List.set_cons_succ])
    refine wpAnyH_take (i := 14) (v := .bool false) rfl (by kernel_rfl) (by kernel_rfl) (by kernel_rfl) (fun _ _ _ h => h) (Or.inl ⟨by rfl, ?_⟩) hHeld2 ?_
    · (intro w hSw; (try dsimp only at hSw); go_simp)
    (try simp only [List.getElem_toArray, List.getElem_cons_zero, List.getElem_cons_succ, Act.put, List.setIfInBounds_toArray, List.set_cons_zero, List.set_cons_succ])
    refine wpAnyH_take (i := 15) (v := .bool false) rfl (by kernel_rfl) (by kernel_rfl) (by kernel_rfl) (fun _ _ _ h => h) (Or.inl ⟨by rfl, ?_⟩) hHeld2 ?_
    · (intro w hSw; (try dsimp only at hSw); go_simp)
    (try simp only [List.getElem_toArray, List.getElem_cons_zero, List.getElem_cons_succ, Act.put, List.setIfInBounds_toArray, List.set_cons_zero, List.set_cons_succ])
    refine wpAnyH_done (by kernel_rfl) ?_ _
    go_wp2
    go_ret
    exact ⟨ret_bool HO.out.symm, b1⟩
  have hk := isShift_letters hS
  obtain ⟨K, rfl⟩ : ∃ K : Nat, k = K := ⟨k.toNat, by omega⟩
  cases hW : isWord K s
  · have HO := Lib.hid (inLang_2 (l := l) hW)
    have HS := Lib.hid hS
    have HW := Lib.hid hW; clear hS hW
    go_enter Tryz.func40, Tryz.ntmps40
    go_wp2
    refine wp_region_held_drew (S := (fun w' => w'.cell? ⟨w.heap.size, 0, none⟩ = some (.int .i64 K) ∧ w'.cell? ⟨w.heap.size, 1, none⟩ = some (.slice a n cap))) (by kernel_rfl) ⟨c0d, c1d⟩ (fun hHeld => ?_)
    refine wpAnyH_take (i := 0) (v := .agg #[.int .i64 K, .slice a n cap]) rfl (by kernel_rfl) (by kernel_rfl) (by kernel_rfl) (fun _ _ _ h => h) (Or.inl ⟨by rfl, ?_⟩) hHeld ?_
    · (intro w hSw; (try dsimp only at hSw); go_simp)
    (try simp only [List.getElem_toArray, List.getElem_cons_zero, List.getElem_cons_succ, Act.put, List.setIfInBounds_toArray, List.set_cons_zero, List.set_cons_succ])
    refine wpAnyH_ready (rs := [1]) (by kernel_rfl) (by simp) ?_
    refine AllReadyH.cons rfl (fun Kx hKx => ?_) AllReadyH.nil
    go_simp
    (go_at_call 46; refine (iIsShift (K : Int) _ l _ (h.keep hbd) hz).mono ?_; rintro e w1 ⟨rfl, hb1⟩; rw [HS.out]; have d0 := cell_keep hb1 c0d; have d1 := cell_keep hb1 c1d; have b1 : Below w.heap.size w w1 := hbd.trans (hb1.mono hbd.size))
    go_wp2_with fail
    refine hKx.out _ _ ⟨d0, d1⟩ (fun hHeld2 => ?_)
    (try simp only [List.getElem_toArray, List.getElem_cons_zero, List.getElem_cons_succ, Act.put, List.setIfInBounds_toArray, List.set_cons_zero, List.set_cons_succ])
    refine wpAnyH_take (i := 2) (v := .bool true) rfl (by kernel_rfl) (by kernel_rfl) (by kernel_rfl) (fun _ _ _ h => h) (Or.inl ⟨by rfl, ?_⟩) hHeld2 ?_
    · (intro w hSw; (try dsimp only at hSw); go_simp)
    (try simp only [List.getElem_toArray, List.getElem_cons_zero, List.getElem_cons_succ, Act.put, List.setIfInBounds_toArray, List.set_cons_zero, List.set_cons_succ])
    refine wpAnyH_take (i := 3) (v := .pointer (some ⟨w.heap.size, 0, none⟩)) rfl (by kernel_rfl) (by kernel_rfl) (by kernel_rfl) (fun _ _ _ h => h) (Or.inl ⟨by rfl, ?_⟩) hHeld2 ?_
    · (intro w hSw; (try dsimp only at hSw); go_simp)
    (try simp only [List.getElem_toArray, List.getElem_cons_zero, List.getElem_cons_succ, Act.put, List.setIfInBounds_toArray, List.set_cons_zero, List.set_cons_succ])
    refine wpAnyH_take (i := 4) (v := .int .i64 K) rfl (by kernel_rfl) (by kernel_rfl) (by kernel_rfl) (fun _ _ _ h => h) (Or.inl ⟨by rfl, ?_⟩) hHeld2 ?_
    · (intro w hSw; (try dsimp only at hSw); go_simp)
    (try simp only [List.getElem_toArray, List.getElem_cons_zero, List.getElem_cons_succ, Act.put, List.setIfInBounds_toArray, List.set_cons_zero, List.set_cons_succ])
    refine wpAnyH_take (i := 5) (v := .string s) rfl (by kernel_rfl) (by kernel_rfl) (by kernel_rfl) (fun _ _ _ h => h) (Or.inl ⟨by rfl, ?_⟩) hHeld2 ?_
    · (intro w hSw; (try dsimp only at hSw); go_simp)
    (try simp only [List.getElem_toArray, List.getElem_cons_zero, List.getElem_cons_succ, Act.put, List.setIfInBounds_toArray, List.set_cons_zero, List.set_cons_succ])
    refine wpAnyH_ready (rs := [6]) (by kernel_rfl) (by simp) ?_
    refine AllReadyH.cons rfl (fun Kx hKx => ?_) AllReadyH.nil
    go_simp
    (go_at_call 91; refine (iIsWord _ _ _ hs).mono ?_; rintro e w' ⟨rfl, rfl⟩; rw [HW.out])
    go_wp2_with fail
    refine hKx.out _ _ ⟨d0, d1⟩ (fun hHeld3 => ?_)
    (try simp only [List.getElem_toArray, List.getElem_cons_zero, List.getElem_cons_succ, Act.put, List.setIfInBounds_toArray, List.set_cons_zero, List.set_cons_succ])
    refine wpAnyH_take (i := 7) (v := .bool false) rfl (by kernel_rfl) (by kernel_rfl) (by kernel_rfl) (fun _ _ _ h => h) (Or.inl ⟨by rfl, ?_⟩) hHeld3 ?_
    · (intro w hSw; (try dsimp only at hSw); go_simp)
    (try simp only [List.getElem_toArray, List.getElem_cons_zero, List.getElem_cons_succ, Act.put, List.setIfInBounds_toArray, List.set_cons_zero, List.set_cons_succ])
    refine wpAnyH_take (i := 8) (v := .bool false) rfl (by kernel_rfl) (by kernel_rfl) (by kernel_rfl) (fun _ _ _ h => h) (Or.inl ⟨by rfl, ?_⟩) hHeld3 ?_
    · (intro w hSw; (try dsimp only at hSw); go_simp)
    (try simp only [List.getElem_toArray, List.getElem_cons_zero, List.getElem_cons_succ, Act.put, List.setIfInBounds_toArray, List.set_cons_zero, List.set_cons_succ])
    refine wpAnyH_take (i := 9) (v := undef) rfl (by kernel_rfl) (by kernel_rfl) (by kernel_rfl) (fun _ _ _ h => h) (Or.inr ⟨by rfl, rfl⟩) hHeld3 ?_
    (try simp only [List.getElem_toArray, List.getElem_cons_zero, List.getElem_cons_succ, Act.put, List.setIfInBounds_toArray, List.set_cons_zero, List.set_cons_succ])
    refine wpAnyH_take (i := 10) (v := undef) rfl (by kernel_rfl) (by kernel_rfl) (by kernel_rfl) (fun _ _ _ h => h) (Or.inr ⟨by rfl, rfl⟩) hHeld3 ?_
    (try simp only [List.getElem_toArray, List.getElem_cons_zero, List.getElem_cons_succ, Act.put, List.setIfInBounds_toArray, List.set_cons_zero, List.set_cons_succ])
    refine wpAnyH_take (i := 11) (v := undef) rfl (by kernel_rfl) (by kernel_rfl) (by kernel_rfl) (fun _ _ _ h => h) (Or.inr ⟨by rfl, rfl⟩) hHeld3 ?_
    (try simp only [List.getElem_toArray, List.getElem_cons_zero, List.getElem_cons_succ, Act.put, List.setIfInBounds_toArray, List.set_cons_zero, List.set_cons_succ])
    refine wpAnyH_take (i := 12) (v := undef) rfl (by kernel_rfl) (by kernel_rfl) (by kernel_rfl) (fun _ _ _ h => h) (Or.inr ⟨by rfl, rfl⟩) hHeld3 ?_
    (try simp only [List.getElem_toArray, List.getElem_cons_zero, List.getElem_cons_succ, Act.put, List.setIfInBounds_toArray, List.set_cons_zero, List.set_cons_succ])
    refine wpAnyH_take (i := 13) (v := undef) rfl (by kernel_rfl) (by kernel_rfl) (by kernel_rfl) (fun _ _ _ h => h) (Or.inr ⟨by rfl, rfl⟩) hHeld3 ?_
    (try simp only [List.getElem_toArray, List.getElem_cons_zero, List.getElem_cons_succ, Act.put, List.setIfInBounds_toArray, List.set_cons_zero, List.set_cons_succ])
    refine wpAnyH_take (i := 14) (v := .bool false) rfl (by kernel_rfl) (by kernel_rfl) (by kernel_rfl) (fun _ _ _ h => h) (Or.inl ⟨by rfl, ?_⟩) hHeld3 ?_
    · (intro w hSw; (try dsimp only at hSw); go_simp)
    (try simp only [List.getElem_toArray, List.getElem_cons_zero, List.getElem_cons_succ, Act.put, List.setIfInBounds_toArray, List.set_cons_zero, List.set_cons_succ])
    refine wpAnyH_take (i := 15) (v := .bool false) rfl (by kernel_rfl) (by kernel_rfl) (by kernel_rfl) (fun _ _ _ h => h) (Or.inl ⟨by rfl, ?_⟩) hHeld3 ?_
    · (intro w hSw; (try dsimp only at hSw); go_simp)
    (try simp only [List.getElem_toArray, List.getElem_cons_zero, List.getElem_cons_succ, Act.put, List.setIfInBounds_toArray, List.set_cons_zero, List.set_cons_succ])
    refine wpAnyH_done (by kernel_rfl) ?_ _
    go_wp2
    go_ret
    exact ⟨ret_bool HO.out.symm, b1⟩
  · have HO0 := Lib.hid (inLang_3 hS hW)
    obtain ⟨r, hr⟩ : ∃ r, inL K l s = r := ⟨_, rfl⟩
    have HO := Lib.hid hr
    rw [hr] at HO0
    clear hr
    have HS := Lib.hid hS
    have HW := Lib.hid hW; clear hS hW
    go_enter Tryz.func40, Tryz.ntmps40
    go_wp2
    refine wp_region_held_drew (S := (fun w' => w'.cell? ⟨w.heap.size, 0, none⟩ = some (.int .i64 K) ∧ w'.cell? ⟨w.heap.size, 1, none⟩ = some (.slice a n cap))) (by kernel_rfl) ⟨c0d, c1d⟩ (fun hHeld => ?_)
    refine wpAnyH_take (i := 0) (v := .agg #[.int .i64 K, .slice a n cap]) rfl (by kernel_rfl) (by kernel_rfl) (by kernel_rfl) (fun _ _ _ h => h) (Or.inl ⟨by rfl, ?_⟩) hHeld ?_
    · (intro w hSw; (try dsimp only at hSw); go_simp)
    (try simp only [List.getElem_toArray, List.getElem_cons_zero, List.getElem_cons_succ, Act.put, List.setIfInBounds_toArray, List.set_cons_zero, List.set_cons_succ])
    refine wpAnyH_ready (rs := [1]) (by kernel_rfl) (by simp) ?_
    refine AllReadyH.cons rfl (fun Kx hKx => ?_) AllReadyH.nil
    go_simp
    (go_at_call 46; refine (iIsShift (K : Int) _ l _ (h.keep hbd) hz).mono ?_; rintro e w1 ⟨rfl, hb1⟩; rw [HS.out]; have d0 := cell_keep hb1 c0d; have d1 := cell_keep hb1 c1d; have b1 : Below w.heap.size w w1 := hbd.trans (hb1.mono hbd.size))
    go_wp2_with fail
    refine hKx.out _ _ ⟨d0, d1⟩ (fun hHeld2 => ?_)
    (try simp only [List.getElem_toArray, List.getElem_cons_zero, List.getElem_cons_succ, Act.put, List.setIfInBounds_toArray, List.set_cons_zero, List.set_cons_succ])
    refine wpAnyH_take (i := 2) (v := .bool true) rfl (by kernel_rfl) (by kernel_rfl) (by kernel_rfl) (fun _ _ _ h => h) (Or.inl ⟨by rfl, ?_⟩) hHeld2 ?_
    · (intro w hSw; (try dsimp only at hSw); go_simp)
    (try simp only [List.getElem_toArray, List.getElem_cons_zero, List.getElem_cons_succ, Act.put, List.setIfInBounds_toArray, List.set_cons_zero, List.set_cons_succ])
    refine wpAnyH_take (i := 3) (v := .pointer (some ⟨w.heap.size, 0, none⟩)) rfl (by kernel_rfl) (by kernel_rfl) (by kernel_rfl) (fun _ _ _ h => h) (Or.inl ⟨by rfl, ?_⟩) hHeld2 ?_
    · (intro w hSw; (try dsimp only at hSw); go_simp)
    (try simp only [List.getElem_toArray, List.getElem_cons_zero, List.getElem_cons_succ, Act.put, List.setIfInBounds_toArray, List.set_cons_zero, List.set_cons_succ])
    refine wpAnyH_take (i := 4) (v := .int .i64 K) rfl (by kernel_rfl) (by kernel_rfl) (by kernel_rfl) (fun _ _ _ h => h) (Or.inl ⟨by rfl, ?_⟩) hHeld2 ?_
    · (intro w hSw; (try dsimp only at hSw); go_simp)
    (try simp only [List.getElem_toArray, List.getElem_cons_zero, List.getElem_cons_succ, Act.put, List.setIfInBounds_toArray, List.set_cons_zero, List.set_cons_succ])
    refine wpAnyH_take (i := 5) (v := .string s) rfl (by kernel_rfl) (by kernel_rfl) (by kernel_rfl) (fun _ _ _ h => h) (Or.inl ⟨by rfl, ?_⟩) hHeld2 ?_
    · (intro w hSw; (try dsimp only at hSw); go_simp)
    (try simp only [List.getElem_toArray, List.getElem_cons_zero, List.getElem_cons_succ, Act.put, List.setIfInBounds_toArray, List.set_cons_zero, List.set_cons_succ])
    refine wpAnyH_ready (rs := [6]) (by kernel_rfl) (by simp) ?_
    refine AllReadyH.cons rfl (fun Kx hKx => ?_) AllReadyH.nil
    go_simp
    (go_at_call 91; refine (iIsWord _ _ _ hs).mono ?_; rintro e w' ⟨rfl, rfl⟩; rw [HW.out])
    go_wp2_with fail
    refine hKx.out _ _ ⟨d0, d1⟩ (fun hHeld3 => ?_)
    (try simp only [List.getElem_toArray, List.getElem_cons_zero, List.getElem_cons_succ, Act.put, List.setIfInBounds_toArray, List.set_cons_zero, List.set_cons_succ])
    refine wpAnyH_take (i := 7) (v := .bool true) rfl (by kernel_rfl) (by kernel_rfl) (by kernel_rfl) (fun _ _ _ h => h) (Or.inl ⟨by rfl, ?_⟩) hHeld3 ?_
    · (intro w hSw; (try dsimp only at hSw); go_simp)
    (try simp only [List.getElem_toArray, List.getElem_cons_zero, List.getElem_cons_succ, Act.put, List.setIfInBounds_toArray, List.set_cons_zero, List.set_cons_succ])
    refine wpAnyH_take (i := 8) (v := .bool true) rfl (by kernel_rfl) (by kernel_rfl) (by kernel_rfl) (fun _ _ _ h => h) (Or.inl ⟨by rfl, ?_⟩) hHeld3 ?_
    · (intro w hSw; (try dsimp only at hSw); go_simp)
    (try simp only [List.getElem_toArray, List.getElem_cons_zero, List.getElem_cons_succ, Act.put, List.setIfInBounds_toArray, List.set_cons_zero, List.set_cons_succ])
    refine wpAnyH_take (i := 9) (v := .agg #[.int .i64 K, .slice a n cap]) rfl (by kernel_rfl) (by kernel_rfl) (by kernel_rfl) (fun _ _ _ h => h) (Or.inl ⟨by rfl, ?_⟩) hHeld3 ?_
    · (intro w hSw; (try dsimp only at hSw); go_simp)
    (try simp only [List.getElem_toArray, List.getElem_cons_zero, List.getElem_cons_succ, Act.put, List.setIfInBounds_toArray, List.set_cons_zero, List.set_cons_succ])
    refine wpAnyH_take (i := 10) (v := .agg #[.int .i64 K, .slice a n cap]) rfl (by kernel_rfl) (by kernel_rfl) (by kernel_rfl) (fun _ _ _ h => h) (Or.inl ⟨by rfl, ?_⟩) hHeld3 ?_
    · (intro w hSw; (try dsimp only at hSw); go_simp)
    (try simp only [List.getElem_toArray, List.getElem_cons_zero, List.getElem_cons_succ, Act.put, List.setIfInBounds_toArray, List.set_cons_zero, List.set_cons_succ])
    refine wpAnyH_take (i := 12) (v := .string s) rfl (by kernel_rfl) (by kernel_rfl) (by kernel_rfl) (fun _ _ _ h => h) (Or.inl ⟨by rfl, ?_⟩) hHeld3 ?_
    · (intro w hSw; (try dsimp only at hSw); go_simp)
    (try simp only [List.getElem_toArray, List.getElem_cons_zero, List.getElem_cons_succ, Act.put, List.setIfInBounds_toArray, List.set_cons_zero, List.set_cons_succ])
    refine wpAnyH_ready (rs := [11]) (by kernel_rfl) (by simp) ?_
    refine AllReadyH.cons rfl (fun Kx hKx => ?_) AllReadyH.nil
    go_simp
    (go_at_call 93; refine (istates K _ l _ (hm.keep b1) (h.keep b1) (by omega) (by omega)).mono ?_; rintro e w2 ⟨v2, rfl, ho2, hb2⟩; have b2 : Below w.heap.size w w2 := b1.trans (hb2.mono b1.size); have e0 := cell_keep hb2 d0; have e1 := cell_keep hb2 d1)
    go_wp2_with fail
    refine hKx.out _ _ ⟨e0, e1⟩ (fun hHeld4 => ?_)
    (try simp only [List.getElem_toArray, List.getElem_cons_zero, List.getElem_cons_succ, Act.put, List.setIfInBounds_toArray, List.set_cons_zero, List.set_cons_succ])
    refine wpAnyH_ready (rs := [13]) (by kernel_rfl) (by simp) ?_
    refine AllReadyH.cons rfl (fun Kx hKx => ?_) AllReadyH.nil
    go_simp
    (go_at_call 92; refine (ihas K (K : Int) _ l _ s _ (hm.keep b2) (h.keep b2) ho2.strs hs).mono ?_; rintro e w3 ⟨rfl, hb3⟩; rw [HO.out]; have f0 := cell_keep hb3 e0; have f1 := cell_keep hb3 e1; have b3 : Below w.heap.size w w3 := b2.trans (hb3.mono b2.size))
    go_wp2_with fail
    refine hKx.out _ _ ⟨f0, f1⟩ (fun hHeld5 => ?_)
    (try simp only [List.getElem_toArray, List.getElem_cons_zero, List.getElem_cons_succ, Act.put, List.setIfInBounds_toArray, List.set_cons_zero, List.set_cons_succ])
    refine wpAnyH_take (i := 14) (v := .bool r) rfl (by kernel_rfl) (by kernel_rfl) (by kernel_rfl) (fun _ _ _ h => h) (Or.inl ⟨by rfl, ?_⟩) hHeld5 ?_
    · (intro w hSw; (try dsimp only at hSw); go_simp)
    (try simp only [List.getElem_toArray, List.getElem_cons_zero, List.getElem_cons_succ, Act.put, List.setIfInBounds_toArray, List.set_cons_zero, List.set_cons_succ])
    refine wpAnyH_take (i := 15) (v := .bool r) rfl (by kernel_rfl) (by kernel_rfl) (by kernel_rfl) (fun _ _ _ h => h) (Or.inl ⟨by rfl, ?_⟩) hHeld5 ?_
    · (intro w hSw; (try dsimp only at hSw); go_simp)
    (try simp only [List.getElem_toArray, List.getElem_cons_zero, List.getElem_cons_succ, Act.put, List.setIfInBounds_toArray, List.set_cons_zero, List.set_cons_succ])
    refine wpAnyH_done (by kernel_rfl) ?_ _
    go_wp2
    go_ret
    exact ⟨ret_bool HO0.out.symm, b3⟩
set_option maxRecDepth 10000 in
set_option maxHeartbeats 400000 in
theorem iIsEmptyShift (k : Int) (v : Value) (l : List ByteArray) (w : World) (hm : Ml w) (h : Strs w v l) (hz : ∀ x ∈ l, x.size ≤ 1048576) :
    Calls Tryz.prog 44 #[.agg #[.int .i64 k, v]] w fun e w' => e = .returned (.bool (isEmptyS k l)) ∧ Below w.heap.size w w' := by
  have hb := below_alloc w (.cells #[.int .i64 k, v] 41)
  have c0 : (w.alloc (.cells #[.int .i64 k, v] 41)).cell? ⟨w.heap.size, 0, none⟩ = some (.int .i64 k) := by simp
  have c1 : (w.alloc (.cells #[.int .i64 k, v] 41)).cell? ⟨w.heap.size, 1, none⟩ = some v := by simp
  obtain ⟨a, n, cap, rfl, -⟩ := h.open
  go_enter Tryz.func44, Tryz.ntmps44
  go_wp2_with fail
  refine (iIsShift k _ l _ (h.keep hb) hz).mono ?_
  rintro e w1 ⟨rfl, hb1⟩
  have d0 := cell_keep hb1 c0
  have d1 := cell_keep hb1 c1
  have b1 := hb.trans (hb1.mono (by simp))
  clear c0 c1 hb hb1
  cases hS : isShift k l
  · have HO := Lib.hid (isEmptyS_1 hS); clear hS
    go_wp2
    go_ret
    exact ⟨ret_bool HO.out.symm, b1⟩
  have hk := isShift_letters hS
  obtain ⟨K, rfl⟩ : ∃ K : Nat, k = K := ⟨k.toNat, by omega⟩
  obtain ⟨m, hm9⟩ : ∃ m, (pairs K l).length = m := ⟨_, rfl⟩
  have HO := Lib.hid (isEmptyS_2 hS hm9)
  have HM := Lib.hid hm9; clear hS hm9
  go_wp2_with fail
  refine (istates K _ l _ (hm.keep b1) (h.keep b1) (by omega) (by omega)).mono ?_
  rintro e w2 ⟨v2, rfl, ho2, hb2⟩
  have b2 := b1.trans (hb2.mono b1.size)
  obtain ⟨a2, c2, rfl⟩ := Own.form ho2 (show (strs (pairs K l)).length = m by rw [strs_length]; exact HM.out)
  have hbq : ((m : Int) == 0) = decide (m = 0) := beq_cast m 0
  go_wp2
  go_ret
  exact ⟨ret_bool HO.out.symm, b2⟩
end Go.Proofs.YtkohadoicebojaaGreatDoor

namespace Go.Proofs.YtkohadoicebojaaGreatDoor
open Go.RowKit Go.Deep
set_option linter.unusedSimpArgs false
theorem langL_no {k n : Int} {f : List ByteArray} (h : langB k n f = false) : langL k f n = [] := if_neg (by rw [h]; decide)
theorem langL_yes {k n : Nat} {f : List ByteArray} (h : langB k n f = true) : langL k f n = (words k n).filter (inL k f) := by unfold langL; rw [if_pos h, Int.toNat_natCast, Int.toNat_natCast]
theorem langL_len (k : Int) (f : List ByteArray) (n : Int) : (langL k f n).length ≤ 1000 := by
  cases h : langB k n f
  · rw [langL_no h]; simp
  · have h' := h
    unfold langB at h'
    rw [Bool.and_eq_true] at h'
    have h1 := isShift_letters h'.1
    have h2 := inR_iff.1 h'.2
    unfold langL
    rw [if_pos h]
    have h3 := List.length_filter_le (inL k.toNat f) (words k.toNat n.toNat)
    have h4 := words_small (k := k.toNat) (n := n.toNat) (by omega) (by omega)
    omega
set_option maxRecDepth 10000 in
set_option maxHeartbeats 400000 in
theorem iclo (k : Nat) (v : Value) (l : List ByteArray) (vs : Value) (b1 b2 : Nat) (x : ByteArray) (w : World) (hm : Ml w) (h : Strs w v l) (hS : Strs w vs (pairs k l)) (q0 : w.cell? ⟨b1, 0, none⟩ = some (.int .i64 k)) (q1 : w.cell? ⟨b1, 1, none⟩ = some v) (q2 : w.cell? ⟨b2, 0, none⟩ = some vs) (hx : x.size ≤ 1048576) :
    Calls Tryz.prog 110 #[.string x, .pointer (some ⟨b1, 0, none⟩), .pointer (some ⟨b2, 0, none⟩)] w fun e w' => e = .returned (.bool (inL k l x)) ∧ Below w.heap.size w w' := by
  obtain ⟨a, n, cap, rfl, -⟩ := h.open
  obtain ⟨as1, ns1, cs1, rfl, -⟩ := hS.open
  go_enter Tryz.func110, Tryz.ntmps110
  go_wp2_with fail
  refine (ihas k k _ l _ x _ hm h hS hx).mono ?_
  rintro e w2 ⟨rfl, hb2⟩
  go_wp2
  go_ret
  exact ⟨rfl, hb2⟩
set_option maxRecDepth 10000 in
set_option maxHeartbeats 400000 in
theorem ifiltL (kk : Nat) (v : Value) (l : List ByteArray) (vs : Value) (b1 b2 : Nat) (k n : Nat) (w : World) (hm : Ml w) (h : Strs w v l) (hS : Strs w vs (pairs kk l)) (q0 : w.cell? ⟨b1, 0, none⟩ = some (.int .i64 kk)) (q1 : w.cell? ⟨b1, 1, none⟩ = some v) (q2 : w.cell? ⟨b2, 0, none⟩ = some vs) (hk1 : 1 ≤ k) (hk : k ≤ 3) (hn : n ≤ 6) :
    Calls Tryz.prog 88 #[.int .i64 k, .int .i64 n, .func (.func 110) #[] #[.pointer (some ⟨b1, 0, none⟩), .pointer (some ⟨b2, 0, none⟩)]] w fun e w' => ∃ v', e = .returned v' ∧ OwnS 9 w.heap.size w' v' ((words k n).filter (inL kk l)) ∧ Below w.heap.size w w' := by
  have he := Own.empty 9 w
  have hb := below_alloc w (.cells #[] 9)
  have hM9 := words_small hk hn
  obtain ⟨M, hM⟩ : ∃ M, (words k n).length = M := ⟨_, rfl⟩
  rw [hM] at hM9
  have HM := Lib.hid hM; clear hM
  go_enter Tryz.func88, Tryz.ntmps88
  go_wp2_with fail
  refine (iwordsOf k n _ hk1 hk (by omega)).mono ?_
  rintro e w2 ⟨v2, rfl, ho2, hb2⟩
  obtain ⟨a2, c2, rfl⟩ := Own.form ho2 (show (strs (words k n)).length = M by rw [strs_length]; exact HM.out)
  replace he := he.keep hb2
  replace hb := hb.trans (hb2.mono hb.size)
  have hH := OwnS.toH ho2
  have hz2 : w.heap.size + 1 ≤ w2.heap.size := by have := hb2.size; simpa using this
  clear ho2
  have hOut0 : Out (w.heap.size + 1) w2.heap.size (.slice (some ⟨w.heap.size, 0, none⟩) 0 0) := fun k hk => by simp [Value.ownBlock] at hk; omega
  replace hH : OwnSH 9 (w.heap.size + 1) w2.heap.size w2 (.slice a2 M c2) (words k n) := ⟨hH.1.mono (by simp), hH.2⟩
  go_wp2
  go_loopw [7, 15] (fun q i wr => ∃ j : Nat, j ≤ M ∧ i = .int .i64 j ∧ Own 9 w.heap.size wr q (strs (filT (inL kk l) (words k n) j)) ∧ OwnSH 9 (w.heap.size + 1) w2.heap.size wr (.slice a2 M c2) (words k n) ∧ Out (w.heap.size + 1) w2.heap.size q ∧ Below w.heap.size w wr ∧ w2.heap.size ≤ wr.heap.size) (fun _ i _ => M - (intOf i).toNat)
  case atStart => exact ⟨0, Nat.zero_le _, rfl, by rw [filT_zero]; exact he, hH, hOut0, hb, Nat.le_refl _⟩
  case round =>
    clear hH hOut0 he hb
    obtain ⟨j, hj, rfl, hq, hH, hO, hbr, hz⟩ := hrel
    by_cases hlt : j < M
    · obtain ⟨a3, n3, c3, hv, HL3, hn3, HC3⟩ := hH.strs.open
      cases hv
      obtain ⟨b, off, x, rfl, hc, HX⟩ := HC3.out j hlt
      have hxs : x.size ≤ 1048576 := by rw [word_in HX.out]; omega
      clear HC3 HL3
      have hsr := hbr.size
      have hFL := filT_len (inL kk l) (words k n) j
      go_wp2_with fail
      refine (iclo kk v l vs b1 b2 x _ (hm.keep hbr) (h.keep hbr) (hS.keep hbr) (cell_keep hbr q0) (cell_keep hbr q1) (cell_keep hbr q2) hxs).mono ?_
      rintro e w3 ⟨rfl, hb3⟩
      have hq3 := hq.keep hb3
      have hH3 := hH.keep hb3
      have hbr3 := hbr.trans (hb3.mono hsr)
      have hz3 := Nat.le_trans hz hb3.size
      clear hq hH hbr
      cases hA : inL kk l x
      · have HS := Lib.hid (filT_no HX.out hA)
        clear hA
        go_wp2
        go_roundw
        case rel => exact ⟨j + 1, by omega, by go_num, by rw [HS.out]; exact hq3, hH3, hO, hbr3, hz3⟩
        case measure => simp [intOf]; omega
      · have HS := Lib.hid (filT_yes HX.out hA)
        clear hA
        go_wp2_with (at_builtin; refine app1b 39 9 16 (.string ByteArray.empty) Tryz.underlying39 Tryz.infoStr rfl hq3 (.string x) rfl ?h1 ?h2 (by omega) rfl _ _ rfl rfl rfl (by simp) ?_)
        case h1 => rw [strs_length]; unfold maxLen; omega
        case h2 => rw [strs_length]; omega
        intro q' w4 hq4 hg hsz4 hblk
        have hH4 := hH3.grownOut hg hO
        have hO4 := hO.next hblk (by omega)
        have hbr4 := hbr3.trans (hq3.below hg (Nat.le_refl _) (by omega))
        clear hq3 hH3 hbr3 hg hblk
        go_wp2
        go_roundw
        case rel => exact ⟨j + 1, by omega, by go_num, by rw [HS.out, strs_append]; exact hq4, hH4, hO4, hbr4, by omega⟩
        case measure => simp [intOf]; omega
    · have HS := Lib.hid (filT_all (p := inL kk l) HM.out hlt)
      go_wp2
      go_ret
      exact ⟨_, rfl, by rw [← HS.out]; exact hq, hbr⟩
set_option maxRecDepth 10000 in
set_option maxHeartbeats 400000 in
theorem ilanguage (k n : Nat) (v : Value) (l : List ByteArray) (w : World) (hm : Ml w) (h : Strs w v l) (hk1 : 1 ≤ k) (hk : k ≤ 3) (hn : n ≤ 6) :
    Calls Tryz.prog 79 #[.agg #[.int .i64 k, v], .int .i64 n] w fun e w' => ∃ v', e = .returned v' ∧ OwnS 9 w.heap.size w' v' ((words k n).filter (inL k l)) ∧ Below w.heap.size w w' := by
  have hb0 := below_alloc w (.cells #[.int .i64 k, v] 41)
  have c0 : (w.alloc (.cells #[.int .i64 k, v] 41)).cell? ⟨w.heap.size, 0, none⟩ = some (.int .i64 k) := by simp
  have c1 : (w.alloc (.cells #[.int .i64 k, v] 41)).cell? ⟨w.heap.size, 1, none⟩ = some v := by simp
  obtain ⟨a, m, cap, rfl, -⟩ := h.open
  go_enter Tryz.func79, Tryz.ntmps79
  go_wp2_with fail
  refine (istates k _ l _ (hm.keep hb0) (h.keep hb0) hk1 hk).mono ?_
  rintro e w2 ⟨v2, rfl, ho2, hb2⟩
  have d0 := cell_keep hb2 c0
  have d1 := cell_keep hb2 c1
  have b2 := hb0.trans (hb2.mono hb0.size)
  obtain ⟨a2, c2, rfl⟩ := Own.form ho2 rfl
  have hba := below_alloc w2 (.cells #[.slice a2 (strs (pairs k l)).length c2] 39)
  have e0 := cell_keep hba d0
  have e1 := cell_keep hba d1
  have e2 : (w2.alloc (.cells #[.slice a2 (strs (pairs k l)).length c2] 39)).cell? ⟨w2.heap.size, 0, none⟩ = some (.slice a2 (strs (pairs k l)).length c2) := by simp
  have b3 := b2.trans (hba.mono b2.size)
  go_wp2_with fail
  refine (ifiltL k _ l _ w.heap.size w2.heap.size k n _ (hm.keep b3) (h.keep b3) (ho2.strs.keep hba) e0 e1 e2 hk1 hk hn).mono ?_
  rintro e w4 ⟨v4, rfl, ho4, hb4⟩
  go_wp2
  go_ret
  exact ⟨_, rfl, Own.mono ho4 b3.size, b3.trans (hb4.mono b3.size)⟩
theorem Out.sub {lo hi lo' hi' : Nat} {v : Value} (h : Out lo hi v) (h1 : lo ≤ lo') (h2 : hi' ≤ hi) : Out lo' hi' v := fun k hk => by have := h k hk; omega
set_option maxRecDepth 10000 in
set_option maxHeartbeats 800000 in
theorem sLanguageOf (k : Int) (v : Value) (l : List ByteArray) (n : Int) (w : World) (h : Strs w v l) (hz : ∀ x ∈ l, x.size ≤ 1048576) :
    Calls Tryz.prog 36 #[.agg #[.int .i64 k, v], .int .i64 n] w fun e w' => ∃ v', e = .returned v' ∧ OwnS 9 w.heap.size w' v' (langL k l n) ∧ Below w.heap.size w w' := by
  have HZ := Lib.hid hz
  have hb0 := below_alloc w (.cells #[.int .i64 k, v] 41)
  have z0 : (w.alloc (.cells #[.int .i64 k, v] 41)).heap.size = w.heap.size + 1 := by simp
  have hba := below_alloc (w.alloc (.cells #[.int .i64 k, v] 41)) (.cells #[] 9)
  have zz : ((w.alloc (.cells #[.int .i64 k, v] 41)).alloc (.cells #[] 9)).heap.size = w.heap.size + 2 := by simp
  have c0 : ((w.alloc (.cells #[.int .i64 k, v] 41)).alloc (.cells #[] 9)).cell? ⟨w.heap.size, 0, none⟩ = some (.int .i64 k) := cell_keep hba (by simp)
  have c1 : ((w.alloc (.cells #[.int .i64 k, v] 41)).alloc (.cells #[] 9)).cell? ⟨w.heap.size, 1, none⟩ = some v := cell_keep hba (by simp)
  have he := Own.empty 9 (w.alloc (.cells #[.int .i64 k, v] 41))
  rw [z0] at he
  have hb := hb0.trans (hba.mono hb0.size)
  obtain ⟨a, m, cap, rfl, -⟩ := h.open
  clear hb0 z0 hba
  go_enter Tryz.func36, Tryz.ntmps36
  go_wp2_with fail
  refine (sIsShift k _ l _ (h.keep hb) hz).mono ?_
  rintro e w1 ⟨rfl, hb1⟩
  have d0 := cell_keep hb1 c0
  have d1 := cell_keep hb1 c1
  have z1 := hb1.size
  rw [zz] at z1
  have b1 := hb.trans (hb1.mono hb.size)
  replace he := he.keep hb1
  have h1 := h.keep b1
  have hs1 := b1.size
  have h0 := h
  clear c0 c1 hb hb1 zz h
  cases hS : isShift k l
  · have HO := Lib.hid (langL_no (langB_1 (n := n) hS)); clear hS
    go_wp2
    go_ret
    exact ⟨_, rfl, by rw [HO.out]; exact he.mono (by omega), b1⟩
  cases hN : inR n 0 6
  · have HO := Lib.hid (langL_no (f := l) (langB_2 (k := k) hN))
    have HN := Lib.hid hN; clear hS hN
    go_wp2_with (go_at_call 59; refine (wIn' _ _ _ _).mono ?_; rintro e w2 ⟨rfl, rfl⟩; rw [HN.out])
    go_ret
    exact ⟨_, rfl, by rw [HO.out]; exact he.mono (by omega), b1⟩
  have hk := isShift_letters hS
  have hn := inR_iff.1 hN
  obtain ⟨K, rfl⟩ : ∃ K : Nat, k = K := ⟨k.toNat, by omega⟩
  obtain ⟨M, rfl⟩ : ∃ M : Nat, n = M := ⟨n.toNat, by omega⟩
  have HO := Lib.hid (langL_yes (langB_3 hS hN))
  have HN := Lib.hid hN; clear hS hN
  have hN9 := words_small (k := K) (n := M) (by omega) (by omega)
  obtain ⟨N, hNn⟩ : ∃ N, (words K M).length = N := ⟨_, rfl⟩
  rw [hNn] at hN9
  have HNN := Lib.hid hNn; clear hNn
  have hkn : kp K M ≤ 19683 := kp_le (by omega) (by omega)
  go_wp2_with fail
  refine (wIn' _ _ _ _).mono ?_
  rintro e w2 ⟨rfl, rfl⟩
  rw [HN.out]
  go_wp2_with fail
  refine (sl3Pairs K _ l _ h1 hz (by omega) (by omega)).mono ?_
  rintro e w2 ⟨v2, rfl, ho2, hb2⟩
  have e0 := cell_keep hb2 d0
  have e1 := cell_keep hb2 d1
  have b2 := b1.trans (hb2.mono hs1)
  have z2 := hb2.size
  replace he := he.keep hb2
  obtain ⟨ap, cp, rfl⟩ := Own.form ho2 rfl
  obtain ⟨np, hnp⟩ : ∃ np, (strs (pairs K l)).length = np := ⟨_, rfl⟩
  rw [hnp] at ho2 ⊢
  clear d0 d1 hb2 hnp
  go_wp2_with fail
  refine (sAll K M _ (by omega) (by omega) (by omega) hkn).mono ?_
  rintro e w3 ⟨v3, rfl, ho3, hb3⟩
  obtain ⟨aa, ca, rfl⟩ := Own.form ho3 (show (strs (words K M)).length = N by rw [strs_length]; exact HNN.out)
  have f0 := cell_keep hb3 e0
  have f1 := cell_keep hb3 e1
  have b3 := b2.trans (hb3.mono b2.size)
  have z3 := hb3.size
  replace he := he.keep hb3
  have hP : OwnSH 9 (w.heap.size + 2) w3.heap.size w3 (.slice ap np cp) (pairs K l) := ⟨(Own.keep ho2 hb3).mono (by omega), fun j hj => by have := (Own.lt ho2 j hj).2; omega⟩
  have hA : OwnSH 9 (w.heap.size + 2) w3.heap.size w3 (.slice aa N ca) (words K M) := ⟨Own.mono ho3 (by omega), (OwnS.toH ho3).2⟩
  have hOut0 : Out (w.heap.size + 2) w3.heap.size (.slice (some ⟨w.heap.size + 1, 0, none⟩) 0 0) := fun k hk => by simp [Value.ownBlock] at hk; omega
  clear e0 e1 hb3 ho2 ho3
  go_wp2
  go_loopw [5, 8] (fun q i wr => ∃ j : Nat, j ≤ N ∧ i = .int .i64 j ∧ Own 9 (w.heap.size + 1) wr q (strs (filT (inL K l) (words K M) j)) ∧ OwnSH 9 (w.heap.size + 2) w3.heap.size wr (.slice ap np cp) (pairs K l) ∧ OwnSH 9 (w.heap.size + 2) w3.heap.size wr (.slice aa N ca) (words K M) ∧ Out (w.heap.size + 2) w3.heap.size q ∧ Below (w.heap.size + 1) w3 wr) (fun _ i _ => N - (intOf i).toNat)
  case atStart => exact ⟨0, Nat.zero_le _, rfl, by rw [filT_zero]; exact he, hP, hA, hOut0, Below.refl _ _⟩
  case round =>
    clear hP hA hOut0 he
    obtain ⟨j, hj, rfl, hq, hP, hA, hO, hbr⟩ := hrel
    have hsr := hbr.size
    have hbw : Below w.heap.size w wr := b3.trans (hbr.mono (by omega))
    by_cases hlt : j < N
    · obtain ⟨a3, n3, c3, hv, HL3, hn3, HC3⟩ := hA.strs.open
      cases hv
      obtain ⟨b, off, x, rfl, hc, HX⟩ := HC3.out j hlt
      have hxs : x.size ≤ 1048576 := by rw [word_in HX.out]; omega
      clear HC3 HL3
      have f0d : wr.drew.cell? ⟨w.heap.size, 0, none⟩ = some (.int .i64 K) := by show wr.cell? _ = _; rw [hbr.cell (p := ⟨w.heap.size, 0, none⟩) (by simp)]; exact f0
      have f1d : wr.drew.cell? ⟨w.heap.size, 1, none⟩ = some (.slice a m cap) := by show wr.cell? _ = _; rw [hbr.cell (p := ⟨w.heap.size, 1, none⟩) (by simp)]; exact f1
      have hcd : wr.drew.cell? ⟨b, off + j, none⟩ = some (.string x) := hc
      have hlD : Strs wr.drew (.slice a m cap) l := h0.keep hbw.drew
      have hPD : OwnSH 9 (w.heap.size + 2) w3.heap.size wr.drew (.slice ap np cp) (pairs K l) := hP
      have hAD : OwnSH 9 (w.heap.size + 2) w3.heap.size wr.drew (.slice (some ⟨b, off, none⟩) N ca) (words K M) := hA
      have hqD : Own 9 (w.heap.size + 1) wr.drew _ (strs (filT (inL K l) (words K M) j)) := hq
      have hbD : Below (w.heap.size + 1) w3 wr.drew := hbr.drew
      have hFL := filT_len (inL K l) (words K M) j
      obtain ⟨bb, hbb⟩ : ∃ bb, inL K l x = bb := ⟨_, rfl⟩
      have HA := Lib.hid hbb
      have HS := Lib.hid (filT_step HX.out hbb)
      clear hbb hc hP hA hq hbr
      go_wp2
      refine wp_region_held_drew (S := (fun w' => w'.cell? ⟨w.heap.size, 0, none⟩ = some (.int .i64 K) ∧ w'.cell? ⟨w.heap.size, 1, none⟩ = some (.slice a m cap) ∧ w'.cell? ⟨b, off + j, none⟩ = some (.string x))) (by kernel_rfl) ⟨f0d, f1d, hcd⟩ (fun hHeld => ?_)
      refine wpAnyH_take (i := 0) (v := .agg #[.int .i64 K, .slice a m cap]) rfl (by kernel_rfl) (by kernel_rfl) (by kernel_rfl) (fun _ _ _ h => h) (Or.inl ⟨by rfl, ?_⟩) hHeld ?_
      · (intro w hSw; (try dsimp only at hSw); go_simp)
      (try simp only [List.getElem_toArray, List.getElem_cons_zero, List.getElem_cons_succ, Act.put, List.setIfInBounds_toArray, List.set_cons_zero, List.set_cons_succ])
      refine wpAnyH_take (i := 1) (v := .slice ap np cp) rfl (by kernel_rfl) (by kernel_rfl) (by kernel_rfl) (fun _ _ _ h => h) (Or.inl ⟨by rfl, ?_⟩) hHeld ?_
      · (intro w hSw; (try dsimp only at hSw); go_simp)
      (try simp only [List.getElem_toArray, List.getElem_cons_zero, List.getElem_cons_succ, Act.put, List.setIfInBounds_toArray, List.set_cons_zero, List.set_cons_succ])
      refine wpAnyH_take (i := 2) (v := .slice (some ⟨b, off, none⟩) N ca) rfl (by kernel_rfl) (by kernel_rfl) (by kernel_rfl) (fun _ _ _ h => h) (Or.inl ⟨by rfl, ?_⟩) hHeld ?_
      · (intro w hSw; (try dsimp only at hSw); go_simp)
      (try simp only [List.getElem_toArray, List.getElem_cons_zero, List.getElem_cons_succ, Act.put, List.setIfInBounds_toArray, List.set_cons_zero, List.set_cons_succ])
      refine wpAnyH_take (i := 3) (v := .int .i64 j) rfl (by kernel_rfl) (by kernel_rfl) (by kernel_rfl) (fun _ _ _ h => h) (Or.inl ⟨by rfl, ?_⟩) hHeld ?_
      · (intro w hSw; (try dsimp only at hSw); go_simp)
      (try simp only [List.getElem_toArray, List.getElem_cons_zero, List.getElem_cons_succ, Act.put, List.setIfInBounds_toArray, List.set_cons_zero, List.set_cons_succ])
      refine wpAnyH_take (i := 4) (v := .pointer (some ⟨b, off + j, none⟩)) rfl (by kernel_rfl) (by kernel_rfl) (by kernel_rfl) (fun _ _ _ h => h) (Or.inl ⟨by rfl, ?_⟩) hHeld ?_
      · (intro w hSw; (try dsimp only at hSw); go_simp)
      (try simp only [List.getElem_toArray, List.getElem_cons_zero, List.getElem_cons_succ, Act.put, List.setIfInBounds_toArray, List.set_cons_zero, List.set_cons_succ])
      refine wpAnyH_take (i := 5) (v := .string x) rfl (by kernel_rfl) (by kernel_rfl) (by kernel_rfl) (fun _ _ _ h => h) (Or.inl ⟨by rfl, ?_⟩) hHeld ?_
      · (intro w hSw; (try dsimp only at hSw); go_simp)
      (try simp only [List.getElem_toArray, List.getElem_cons_zero, List.getElem_cons_succ, Act.put, List.setIfInBounds_toArray, List.set_cons_zero, List.set_cons_succ])
      refine wpAnyH_ready (rs := [6]) (by kernel_rfl) (by simp) ?_
      refine AllReadyH.cons rfl (fun Kx hKx => ?_) AllReadyH.nil
      go_simp
      (go_at_call 87; refine (sl3In K (K : Int) _ l _ x _ hlD HZ.out hPD.strs hxs).mono ?_; rintro e w6 ⟨rfl, hb6⟩; rw [HA.out]; have e0 := cell_keep (w := wr.drew) hb6 f0d; have e1 := cell_keep (w := wr.drew) hb6 f1d; have ex := cell_keep (w := wr.drew) hb6 hcd)
      go_wp2_with fail
      refine hKx.out _ _ ⟨e0, e1, ex⟩ (fun hHeld2 => ?_)
      (try simp only [List.getElem_toArray, List.getElem_cons_zero, List.getElem_cons_succ, Act.put, List.setIfInBounds_toArray, List.set_cons_zero, List.set_cons_succ])
      refine wpAnyH_done (by kernel_rfl) ?_ _
      have hP6 := hPD.keep hb6
      have hA6 := hAD.keep hb6
      have hq6 := hqD.keep hb6
      have hb7 := hbD.trans (hb6.mono (show w.heap.size + 1 ≤ wr.drew.heap.size from Nat.le_trans (by omega) hbD.size))
      have hs7 := hb7.size
      clear hPD hAD hqD hbD hb6 f0d f1d hcd hHeld hHeld2 e0 e1 hlD
      cases bb
      · go_wp2
        go_roundw
        case rel => exact ⟨j + 1, by omega, by go_num, by rw [HS.out]; simpa using hq6, hP6, hA6, hO, hb7⟩
        case measure => simp [intOf]; omega
      · go_wp2_with (at_builtin; refine app1b 39 9 16 (.string ByteArray.empty) Tryz.underlying39 Tryz.infoStr rfl hq6 (.string x) rfl ?h1 ?h2 (by omega) rfl _ _ rfl rfl rfl (by simp) ?_)
        case h1 => rw [strs_length]; unfold maxLen; omega
        case h2 => rw [strs_length]; omega
        intro q' w8 hq8 hg hsz8 hblk
        have hP8 := hP6.grownOut hg hO
        have hA8 := hA6.grownOut hg hO
        have hO8 := hO.next hblk (by omega)
        have hb8 := hb7.trans (hq6.below hg (Nat.le_refl _) (by omega))
        clear hq6 hP6 hA6 hb7 hg hblk
        go_wp2
        go_roundw
        case rel => exact ⟨j + 1, by omega, by go_num, by rw [HS.out, if_pos trivial, strs_append]; exact hq8, hP8, hA8, hO8, hb8⟩
        case measure => simp [intOf]; omega
    · have HS := Lib.hid (filT_all (p := inL K l) HNN.out hlt)
      go_wp2
      go_ret
      exact ⟨_, rfl, by rw [HO.out, ← HS.out]; exact hq.mono (by omega), hbw⟩
set_option maxRecDepth 10000 in
set_option maxHeartbeats 400000 in
theorem iLanguageOf (k : Int) (v : Value) (l : List ByteArray) (n : Int) (w : World) (hm : Ml w) (h : Strs w v l) (hz : ∀ x ∈ l, x.size ≤ 1048576) :
    Calls Tryz.prog 28 #[.agg #[.int .i64 k, v], .int .i64 n] w fun e w' => ∃ v', e = .returned v' ∧ OwnS 9 w.heap.size w' v' (langL k l n) ∧ Below w.heap.size w w' := by
  have hb := below_alloc w (.cells #[.int .i64 k, v] 41)
  have c0 : (w.alloc (.cells #[.int .i64 k, v] 41)).cell? ⟨w.heap.size, 0, none⟩ = some (.int .i64 k) := by simp
  have c1 : (w.alloc (.cells #[.int .i64 k, v] 41)).cell? ⟨w.heap.size, 1, none⟩ = some v := by simp
  have he := Own.nil 9 w.heap.size w
  obtain ⟨a, m, cap, rfl, -⟩ := h.open
  go_enter Tryz.func28, Tryz.ntmps28
  go_wp2_with fail
  refine (iIsShift k _ l _ (h.keep hb) hz).mono ?_
  rintro e w1 ⟨rfl, hb1⟩
  have d0 := cell_keep hb1 c0
  have d1 := cell_keep hb1 c1
  have b1 := hb.trans (hb1.mono (by simp))
  have h1 := h.keep b1
  have hm1 := hm.keep b1
  have hs1 := b1.size
  have he1 := Own.nil 9 w.heap.size w1
  clear c0 c1 hb hb1 h hm he
  cases hS : isShift k l
  · have HO := Lib.hid (langL_no (langB_1 (n := n) hS)); clear hS
    go_wp2
    go_ret
    exact ⟨_, rfl, by rw [HO.out]; exact he1, b1⟩
  by_cases hn0 : n < 0
  · have HO := Lib.hid (langL_no (f := l) (langB_2 (k := k) (n := n) (inR_no.2 (by omega)))); clear hS
    go_wp2
    go_ret
    exact ⟨_, rfl, by rw [HO.out]; exact he1, b1⟩
  by_cases hn6 : 6 < n
  · have HO := Lib.hid (langL_no (f := l) (langB_2 (k := k) (n := n) (inR_no.2 (by omega)))); clear hS
    go_wp2
    go_ret
    exact ⟨_, rfl, by rw [HO.out]; exact he1, b1⟩
  · have hk := isShift_letters hS
    obtain ⟨K, rfl⟩ : ∃ K : Nat, k = K := ⟨k.toNat, by omega⟩
    obtain ⟨M, rfl⟩ : ∃ M : Nat, n = M := ⟨n.toNat, by omega⟩
    have HO := Lib.hid (langL_yes (langB_3 hS (inR_iff.2 (by omega : (0 : Int) ≤ (M : Int) ∧ (M : Int) ≤ 6)))); clear hS
    go_wp2_with fail
    refine (ilanguage K M _ l _ hm1 h1 (by omega) (by omega) (by omega)).mono ?_
    rintro e w2 ⟨v2, rfl, ho2, hb2⟩
    go_wp2
    go_ret
    exact ⟨_, rfl, by rw [HO.out]; exact Own.mono ho2 hs1, b1.trans (hb2.mono hs1)⟩
end Go.Proofs.YtkohadoicebojaaGreatDoor

namespace Go.Proofs.YtkohadoicebojaaGreatDoor
open Go.RowKit Go.Deep
/-! ## words -/
theorem kp_mul (k n : Nat) : kp k (n + 1) = kp k n * k := rfl
theorem letOk_ltr {k : Nat} {c : UInt8} (h : letOk k c = true) : ∃ x, x < k ∧ c = ltr x := by
  unfold letOk at h
  simp only [Bool.and_eq_true, decide_eq_true_eq] at h
  have hlt := c.toNat_lt
  refine ⟨c.toNat - 97, by omega, ?_⟩
  unfold ltr
  apply UInt8.toNat_inj.1
  rw [UInt8.toNat_ofNat']
  omega
theorem ltr_letOk {k x : Nat} (hk : k ≤ 3) (h : x < k) : letOk k (ltr x) = true := by
  have := ltr_nat (x := x) (by omega)
  exact letOk_yes (by omega) (by omega)
theorem words_mem {k n : Nat} {s : ByteArray} : s ∈ words k n ↔ ∃ i, i < kp k n ∧ word k n i = s := by
  unfold words wordsTo
  simp only [List.mem_map, List.mem_range]
theorem mem_words {k : Nat} : ∀ (n : Nat) (l : List UInt8), l.length = n → l.all (letOk k) = true → str l ∈ words k n := by
  intro n
  induction n with
  | zero =>
    intro l hl _
    have : l = [] := List.length_eq_zero_iff.1 hl
    subst this
    exact words_mem.2 ⟨0, by rw [kp_zero]; omega, rfl⟩
  | succ n ih =>
    intro l hl ha
    have hne : l ≠ [] := fun e => by rw [e] at hl; simp at hl
    obtain ⟨t, c, rfl⟩ : ∃ t c, l = t ++ [c] := ⟨l.dropLast, l.getLast hne, (List.dropLast_concat_getLast hne).symm⟩
    rw [List.all_append, Bool.and_eq_true] at ha
    have hc : letOk k c = true := by simpa using ha.2
    obtain ⟨x, hx, rfl⟩ := letOk_ltr hc
    obtain ⟨j, hj, hw⟩ := words_mem.1 (ih t (by simpa using hl) ha.1)
    refine words_mem.2 ⟨j * k + x, ?_, ?_⟩
    · rw [kp_mul]
      have : (j + 1) * k ≤ kp k n * k := Nat.mul_le_mul_right _ hj
      rw [Nat.succ_mul] at this
      omega
    · rw [word_next hx, hw, str_append]
theorem wrdAt_let {k : Nat} (hk1 : 1 ≤ k) (hk : k ≤ 3) : ∀ n i, (wrdAt k n i).all (letOk k) = true := by
  intro n
  induction n with
  | zero => intro i; rfl
  | succ n ih =>
    intro i
    rw [wrdAt, List.all_append, ih, Bool.true_and]
    simp [ltr_letOk hk (Nat.mod_lt i (show 0 < k by omega))]
theorem words_let {k n : Nat} (hk1 : 1 ≤ k) (hk : k ≤ 3) {s : ByteArray} (h : s ∈ words k n) : (bts s).all (letOk k) = true ∧ (bts s).length = n := by
  obtain ⟨i, -, rfl⟩ := words_mem.1 h
  unfold word
  rw [bts_str]
  exact ⟨wrdAt_let hk1 hk n i, wrdAt_length k n i⟩
/-! ## what has a next and a former one -/
theorem core_of_stable {α : Type} {R : α → α → Bool} {l : List α} {Q : α → Prop} (h : ∀ x, Q x → x ∈ l ∧ (∃ y, Q y ∧ R x y = true) ∧ ∃ y, Q y ∧ R y x = true) : ∀ x, Q x → x ∈ core R l := by
  have key : ∀ t x, Q x → x ∈ stpN R l t := by
    intro t
    induction t with
    | zero => intro x hx; exact (h x hx).1
    | succ t ih =>
      intro x hx
      obtain ⟨-, ⟨y, hy, h1⟩, ⟨z, hz, h2⟩⟩ := h x hx
      refine List.mem_filter.2 ⟨ih x hx, ?_⟩
      unfold stays
      rw [Bool.and_eq_true]
      exact ⟨List.any_eq_true.2 ⟨y, ih y hy, h1⟩, List.any_eq_true.2 ⟨z, ih z hz, h2⟩⟩
  intro x hx
  exact key _ x hx
/-! ## pairs -/
def avs (f : List ByteArray) (l : List UInt8) : Bool := avo f (str l)
theorem avs_part {f : List ByteArray} {l p : List UInt8} (h : avs f l = true) (hp : p <:+: l) : avs f p = true := avo_part h (occ_iff.2 (by rwa [bts_str, bts_str]))
def PP (k : Nat) (f : List ByteArray) (a b : UInt8) : Prop := str [a, b] ∈ pairs k f
theorem fol_str {f : List ByteArray} {a b b' c : UInt8} : fol f (str [a, b]) (str [b', c]) = true ↔ b = b' ∧ avs f [a, b, c] = true := by
  have e : str [a, b] ++ (str [b', c]).extract 1 (str [b', c]).size = str [a, b, c] := by
    apply bts_inj
    rw [bts_append, bts_extract, bts_str, bts_str, bts_str, str_size]; rfl
  unfold fol avs
  rw [e, bts_str, bts_str, Bool.and_eq_true, decide_eq_true_eq]
  exact Iff.rfl
theorem str_eq {s : ByteArray} {l : List UInt8} (h : bts s = l) : s = str l := by rw [← h, str_bts]
theorem pair_form {k : Nat} {f : List ByteArray} (hk1 : 1 ≤ k) (hk : k ≤ 3) {x : ByteArray} (h : x ∈ pairs k f) : ∃ a b, x = str [a, b] ∧ letOk k a = true ∧ letOk k b = true ∧ avs f [a, b] = true := by
  have h0 := stpN_sub _ _ _ x h
  have hw := (List.mem_filter.1 h0).1
  have ha := (pairs_in h).2
  obtain ⟨h1, h2⟩ := words_let hk1 hk hw
  match hb : bts x, h2, h1 with
  | [a, b], _, h1 =>
    have e := str_eq hb
    simp only [List.all_cons, List.all_nil, Bool.and_true, Bool.and_eq_true] at h1
    exact ⟨a, b, e, h1.1, h1.2, by unfold avs; rw [← e]; exact ha⟩
theorem PP_next {k : Nat} {f : List ByteArray} (hk1 : 1 ≤ k) (hk : k ≤ 3) {a b : UInt8} (h : PP k f a b) : ∃ c, PP k f b c ∧ letOk k c = true ∧ avs f [a, b, c] = true := by
  have hs := core_stays h
  unfold stays at hs
  rw [Bool.and_eq_true] at hs
  obtain ⟨v, hv, hf⟩ := List.any_eq_true.1 hs.1
  obtain ⟨b', c, rfl, -, hc, -⟩ := pair_form hk1 hk hv
  obtain ⟨rfl, h3⟩ := fol_str.1 hf
  exact ⟨c, hv, hc, h3⟩
theorem PP_former {k : Nat} {f : List ByteArray} (hk1 : 1 ≤ k) (hk : k ≤ 3) {b c : UInt8} (h : PP k f b c) : ∃ a, PP k f a b ∧ letOk k a = true ∧ avs f [a, b, c] = true := by
  have hs := core_stays h
  unfold stays at hs
  rw [Bool.and_eq_true] at hs
  obtain ⟨v, hv, hf⟩ := List.any_eq_true.1 hs.2
  obtain ⟨a, b', rfl, ha, -, -⟩ := pair_form hk1 hk hv
  obtain ⟨rfl, h3⟩ := fol_str.1 hf
  exact ⟨a, hv, ha, h3⟩
/-- A word all of whose pairs go on without end. -/
def Good (k : Nat) (f : List ByteArray) (l : List UInt8) : Prop := avs f l = true ∧ ∀ i a b, l[i]? = some a → l[i + 1]? = some b → PP k f a b
theorem part2 {l : List UInt8} {i : Nat} {a b : UInt8} (h1 : l[i]? = some a) (h2 : l[i + 1]? = some b) : [a, b] <:+: l := by
  obtain ⟨n1, e1⟩ := List.getElem?_eq_some_iff.1 h1
  obtain ⟨n2, e2⟩ := List.getElem?_eq_some_iff.1 h2
  refine ⟨l.take i, l.drop (i + 2), ?_⟩
  have e : l.drop i = a :: b :: l.drop (i + 2) := by rw [List.drop_eq_getElem_cons n1, List.drop_eq_getElem_cons n2, e1, e2]
  rw [List.append_assoc]
  show l.take i ++ (a :: b :: l.drop (i + 2)) = l
  rw [← e, List.take_append_drop]
theorem part3 {l : List UInt8} {i : Nat} {a b c : UInt8} (h1 : l[i]? = some a) (h2 : l[i + 1]? = some b) (h3 : l[i + 2]? = some c) : [a, b, c] <:+: l := by
  obtain ⟨n1, e1⟩ := List.getElem?_eq_some_iff.1 h1
  obtain ⟨n2, e2⟩ := List.getElem?_eq_some_iff.1 h2
  obtain ⟨n3, e3⟩ := List.getElem?_eq_some_iff.1 h3
  refine ⟨l.take i, l.drop (i + 3), ?_⟩
  have e : l.drop i = a :: b :: c :: l.drop (i + 3) := by rw [List.drop_eq_getElem_cons n1, List.drop_eq_getElem_cons n2, List.drop_eq_getElem_cons n3, e1, e2, e3]
  rw [List.append_assoc]
  show l.take i ++ (a :: b :: c :: l.drop (i + 3)) = l
  rw [← e, List.take_append_drop]
theorem letters_at {k : Nat} {l : List UInt8} {i : Nat} {a : UInt8} (h : l.all (letOk k) = true) (ha : l[i]? = some a) : letOk k a = true := List.all_eq_true.1 h a (List.mem_of_getElem? ha)
theorem good_of_ends {k : Nat} {f : List ByteArray} (hk1 : 1 ≤ k) (hk : k ≤ 3) {l : List UInt8} {n : Nat} (hl : l.length = n + 2) (hL : l.all (letOk k) = true) (hA : avs f l = true)
    (h0 : ∀ a b, l[0]? = some a → l[1]? = some b → PP k f a b) (hn : ∀ a b, l[n]? = some a → l[n + 1]? = some b → PP k f a b) : Good k f l := by
  refine ⟨hA, ?_⟩
  have key := core_of_stable (R := fol f) (l := pairs0 k f) (Q := fun x => x ∈ pairs k f ∨ ∃ i a b, l[i]? = some a ∧ l[i + 1]? = some b ∧ x = str [a, b]) (by
    rintro x (hx | ⟨i, a, b, ha, hb, rfl⟩)
    · refine ⟨stpN_sub _ _ _ x hx, ?_⟩
      have hs := core_stays hx
      unfold stays at hs
      rw [Bool.and_eq_true] at hs
      obtain ⟨v, hv, hf⟩ := List.any_eq_true.1 hs.1
      obtain ⟨u, hu, hf2⟩ := List.any_eq_true.1 hs.2
      exact ⟨⟨v, .inl hv, hf⟩, ⟨u, .inl hu, hf2⟩⟩
    · have hi : i + 1 < l.length := (List.getElem?_eq_some_iff.1 hb).1
      refine ⟨List.mem_filter.2 ⟨mem_words 2 [a, b] rfl (by simp [letters_at hL ha, letters_at hL hb]), avs_part hA (part2 ha hb)⟩, ?_, ?_⟩
      · by_cases e : i = n
        · subst e
          obtain ⟨c, h1, -, h2⟩ := PP_next hk1 hk (hn a b ha hb)
          exact ⟨str [b, c], .inl h1, fol_str.2 ⟨rfl, h2⟩⟩
        · obtain ⟨c, hc⟩ : ∃ c, l[i + 2]? = some c := ⟨_, List.getElem?_eq_getElem (by omega)⟩
          exact ⟨str [b, c], .inr ⟨i + 1, b, c, hb, hc, rfl⟩, fol_str.2 ⟨rfl, avs_part hA (part3 ha hb hc)⟩⟩
      · by_cases e : i = 0
        · subst e
          obtain ⟨c, h1, -, h2⟩ := PP_former hk1 hk (h0 a b ha hb)
          exact ⟨str [c, a], .inl h1, fol_str.2 ⟨rfl, h2⟩⟩
        · obtain ⟨j, rfl⟩ : ∃ j, i = j + 1 := ⟨i - 1, by omega⟩
          obtain ⟨c, hc⟩ : ∃ c, l[j]? = some c := ⟨_, List.getElem?_eq_getElem (by omega)⟩
          exact ⟨str [c, a], .inr ⟨j, c, a, hc, ha, rfl⟩, fol_str.2 ⟨rfl, avs_part hA (part3 hc ha hb)⟩⟩)
  intro i a b ha hb
  exact key _ (.inr ⟨i, a, b, ha, hb, rfl⟩)
theorem hasText_iff {l : List ByteArray} {x : ByteArray} : hasText l x = true ↔ x ∈ l := by
  unfold hasText
  rw [List.any_eq_true]
  constructor
  · rintro ⟨y, hy, h⟩
    have := of_decide_eq_true h
    subst this; exact hy
  · intro h; exact ⟨x, h, decide_eq_true rfl⟩
theorem two_at {l : List UInt8} {i : Nat} {a b : UInt8} (h1 : l[i]? = some a) (h2 : l[i + 1]? = some b) : (l.drop i).take 2 = [a, b] := by
  obtain ⟨n1, e1⟩ := List.getElem?_eq_some_iff.1 h1
  obtain ⟨n2, e2⟩ := List.getElem?_eq_some_iff.1 h2
  rw [List.drop_eq_getElem_cons n1, List.drop_eq_getElem_cons n2, e1, e2]; rfl
theorem inL_iff {k : Nat} {f : List ByteArray} (hk1 : 1 ≤ k) (hk : k ≤ 3) {l : List UInt8} {n : Nat} (hl : l.length = n + 2) (hL : l.all (letOk k) = true) : inL k f (str l) = true ↔ Good k f l := by
  have hz : (str l).size = n + 2 := by rw [str_size, hl]
  obtain ⟨a, ha⟩ : ∃ a, l[0]? = some a := ⟨_, List.getElem?_eq_getElem (by omega)⟩
  obtain ⟨b, hb⟩ : ∃ b, l[1]? = some b := ⟨_, List.getElem?_eq_getElem (by omega)⟩
  obtain ⟨c, hc⟩ : ∃ c, l[n]? = some c := ⟨_, List.getElem?_eq_getElem (by omega)⟩
  obtain ⟨d, hd⟩ : ∃ d, l[n + 1]? = some d := ⟨_, List.getElem?_eq_getElem (by omega)⟩
  have e0 : (str l).extract 0 2 = str [a, b] := by
    apply bts_inj
    rw [bts_extract, bts_str, bts_str, List.drop_zero]
    have := two_at ha hb
    rwa [List.drop_zero] at this
  have e1 : (str l).extract (n + 2 - 2) (n + 2) = str [c, d] := by
    apply bts_inj
    rw [bts_extract, bts_str, bts_str, Nat.add_sub_cancel, List.take_of_length_le (by omega)]
    have := two_at hc hd
    rw [List.take_of_length_le (by rw [List.length_drop]; omega)] at this
    exact this
  unfold inL
  rw [hz, if_pos (by omega), e0, e1, Bool.and_eq_true, Bool.and_eq_true, hasText_iff, hasText_iff]
  constructor
  · rintro ⟨h1, h2, h3⟩
    refine good_of_ends hk1 hk hl hL h1 (fun x y hx hy => ?_) (fun x y hx hy => ?_)
    · rw [ha] at hx; rw [hb] at hy
      cases hx; cases hy; exact h2
    · rw [hc] at hx; rw [hd] at hy
      cases hx; cases hy; exact h3
  · rintro ⟨h1, h2⟩
    exact ⟨h1, h2 0 a b ha hb, h2 n c d hc hd⟩
theorem inL_short {k : Nat} {f : List ByteArray} {l : List UInt8} (hl : l.length < 2) : inL k f (str l) = true ↔ ∃ u ∈ pairs k f, l <:+: bts u := by
  rw [inL_small (by rw [str_size]; exact hl), List.any_eq_true]
  constructor
  · rintro ⟨u, hu, h⟩; exact ⟨u, hu, by rw [occ_iff, bts_str] at h; exact h⟩
  · rintro ⟨u, hu, h⟩; exact ⟨u, hu, by rw [occ_iff, bts_str]; exact h⟩
theorem Good.tail {k : Nat} {f : List ByteArray} {x : UInt8} {l : List UInt8} (h : Good k f (x :: l)) : Good k f l := by
  refine ⟨avs_part h.1 ⟨[x], [], by simp⟩, fun i a b ha hb => h.2 (i + 1) a b (by rw [List.getElem?_cons_succ]; exact ha) (by rw [List.getElem?_cons_succ]; exact hb)⟩
theorem Good.init {k : Nat} {f : List ByteArray} {x : UInt8} {l : List UInt8} (h : Good k f (l ++ [x])) : Good k f l := by
  refine ⟨avs_part h.1 ⟨[], [x], by simp⟩, fun i a b ha hb => h.2 i a b ?_ ?_⟩
  · rw [List.getElem?_append_left (List.getElem?_eq_some_iff.1 ha).1]; exact ha
  · rw [List.getElem?_append_left (List.getElem?_eq_some_iff.1 hb).1]; exact hb
/-- A part of a word of the language: what is left if its first letter goes. -/
theorem inL_tail {k : Nat} {f : List ByteArray} (hk1 : 1 ≤ k) (hk : k ≤ 3) {x : UInt8} {l : List UInt8} (hL : (x :: l).all (letOk k) = true) (h : inL k f (str (x :: l)) = true) : inL k f (str l) = true := by
  have hL2 : l.all (letOk k) = true := by rw [List.all_cons, Bool.and_eq_true] at hL; exact hL.2
  match l, hL, hL2, h with
  | [], hL, hL2, h =>
    obtain ⟨u, hu, -⟩ := (inL_short (by simp)).1 h
    exact (inL_short (by simp)).2 ⟨u, hu, List.nil_infix⟩
  | [y], hL, hL2, h =>
    have hg := (inL_iff hk1 hk (n := 0) rfl hL).1 h
    exact (inL_short (by simp)).2 ⟨_, hg.2 0 x y rfl rfl, by rw [bts_str]; exact ⟨[x], [], rfl⟩⟩
  | y :: z :: l, hL, hL2, h =>
    exact (inL_iff hk1 hk (n := l.length) rfl hL2).2 ((inL_iff hk1 hk (n := l.length + 1) rfl hL).1 h).tail
theorem inL_init {k : Nat} {f : List ByteArray} (hk1 : 1 ≤ k) (hk : k ≤ 3) {x : UInt8} {l : List UInt8} (hL : (l ++ [x]).all (letOk k) = true) (h : inL k f (str (l ++ [x])) = true) : inL k f (str l) = true := by
  have hL2 : l.all (letOk k) = true := by rw [List.all_append, Bool.and_eq_true] at hL; exact hL.1
  match l, hL, hL2, h with
  | [], hL, hL2, h =>
    obtain ⟨u, hu, -⟩ := (inL_short (by simp)).1 h
    exact (inL_short (by simp)).2 ⟨u, hu, List.nil_infix⟩
  | [y], hL, hL2, h =>
    have hg := (inL_iff hk1 hk (n := 0) rfl hL).1 h
    exact (inL_short (by simp)).2 ⟨_, hg.2 0 y x rfl rfl, by rw [bts_str]; exact ⟨[], [x], rfl⟩⟩
  | y :: z :: l, hL, hL2, h =>
    exact (inL_iff hk1 hk (n := l.length) rfl hL2).2 ((inL_iff hk1 hk (n := l.length + 1) (by simp) hL).1 h).init
/-! ## one letter more -/
def Short (f : List ByteArray) : Prop := ∀ x ∈ f, x.size ≤ 3
theorem avs_more {f : List ByteArray} (hf : Short f) {l : List UInt8} {a b c : UInt8} (h1 : avs f (l ++ [a, b]) = true) (h2 : avs f [a, b, c] = true) : avs f (l ++ [a, b] ++ [c]) = true := by
  unfold avs avo at h1 h2 ⊢
  rw [List.all_eq_true] at h1 h2 ⊢
  intro x hx
  have g1 := h1 x hx
  have g2 := h2 x hx
  have hz := hf x hx
  unfold avo1 at g1 g2 ⊢
  rw [Bool.not_eq_true'] at g1 g2 ⊢
  cases ho : occ (str (l ++ [a, b] ++ [c])) x
  · rfl
  · rw [occ_iff, bts_str] at ho
    have hne : occ (str (l ++ [a, b])) x = true ∨ occ (str [a, b, c]) x = true := by
      rcases List.infix_concat_iff.1 ho with h | h
      · right
        rw [occ_iff, bts_str]
        have hs : [a, b, c] <:+ l ++ [a, b] ++ [c] := ⟨l, by simp⟩
        exact (List.suffix_of_suffix_length_le h hs (by rw [bts_length]; simpa using hz)).isInfix
      · left
        rw [occ_iff, bts_str]; exact h
    rcases hne with h | h
    · rw [h] at g1; cases g1
    · rw [h] at g2; cases g2
theorem good_more {k : Nat} {f : List ByteArray} (hf : Short f) (hk1 : 1 ≤ k) (hk : k ≤ 3) {l : List UInt8} {a b : UInt8} (h : Good k f (l ++ [a, b])) : ∃ c, letOk k c = true ∧ Good k f (l ++ [a, b] ++ [c]) := by
  have e1 : (l ++ [a, b])[l.length]? = some a := by rw [List.getElem?_append_right (Nat.le_refl _), Nat.sub_self]; rfl
  have e2 : (l ++ [a, b])[l.length + 1]? = some b := by rw [List.getElem?_append_right (by omega), show l.length + 1 - l.length = 1 by omega]; rfl
  obtain ⟨c, h1, hc, h2⟩ := PP_next hk1 hk (h.2 _ a b e1 e2)
  refine ⟨c, hc, avs_more hf h.1 h2, fun i x y hx hy => ?_⟩
  have hi : i + 1 < (l ++ [a, b] ++ [c]).length := (List.getElem?_eq_some_iff.1 hy).1
  simp only [List.length_append, List.length_cons, List.length_nil] at hi
  by_cases hlt : i + 1 < l.length + 2
  · rw [List.getElem?_append_left (by simp; omega)] at hx hy
    exact h.2 i x y hx hy
  · have e : i = l.length + 1 := by omega
    subst e
    rw [List.getElem?_append_left (by simp), e2] at hx
    rw [List.getElem?_append_right (by simp)] at hy
    simp at hy
    cases hx; subst hy; exact h1
theorem inL_more {k : Nat} {f : List ByteArray} (hf : Short f) (hk1 : 1 ≤ k) (hk : k ≤ 3) {l : List UInt8} (hL : l.all (letOk k) = true) (h : inL k f (str l) = true) : ∃ c, letOk k c = true ∧ inL k f (str (l ++ [c])) = true := by
  by_cases h2 : 2 ≤ l.length
  · obtain ⟨t, a, b, rfl⟩ : ∃ t a b, l = t ++ [a, b] := by
      have hne : l ≠ [] := fun e => by rw [e] at h2; simp at h2
      have e1 := List.dropLast_concat_getLast hne
      have hne2 : l.dropLast ≠ [] := fun e => by
        have := congrArg List.length e
        rw [List.length_dropLast] at this; simp at this; omega
      have e2 := List.dropLast_concat_getLast hne2
      exact ⟨l.dropLast.dropLast, l.dropLast.getLast hne2, l.getLast hne, by
        have e3 : l.dropLast ++ [l.getLast hne] = (l.dropLast.dropLast ++ [l.dropLast.getLast hne2]) ++ [l.getLast hne] := by rw [e2]
        rw [e1] at e3
        refine e3.trans ?_
        simp⟩
    obtain ⟨c, hc, hg⟩ := good_more hf hk1 hk ((inL_iff hk1 hk (n := t.length) (by simp) hL).1 h)
    exact ⟨c, hc, (inL_iff hk1 hk (n := t.length + 1) (by simp) (by rw [List.all_append, hL]; simp [hc])).2 hg⟩
  · obtain ⟨u, hu, hi⟩ := (inL_short (by omega)).1 h
    obtain ⟨a, b, rfl, ha, hb, hab⟩ := pair_form hk1 hk hu
    rw [bts_str] at hi
    match l, hL, h2, hi with
    | [], _, _, _ => exact ⟨a, ha, (inL_short (by simp)).2 ⟨_, hu, by rw [bts_str]; exact ⟨[], [b], rfl⟩⟩⟩
    | [x], hL, _, hi =>
      have hx : x = a ∨ x = b := by
        have := hi.subset (List.mem_singleton.2 rfl)
        simpa using this
      have two : ∀ p q, letOk k p = true → letOk k q = true → PP k f p q → inL k f (str [p, q]) = true := fun p q hp hq hpq => by
        refine (inL_iff hk1 hk (n := 0) rfl (by simp [hp, hq])).2 ⟨(pairs_in hpq).2, fun i y z hy hz => ?_⟩
        have hi : i + 1 < [p, q].length := (List.getElem?_eq_some_iff.1 hz).1
        have hi0 : i = 0 := by simp at hi; omega
        subst hi0
        simp at hy hz
        subst hy; subst hz; exact hpq
      rcases hx with rfl | rfl
      · exact ⟨b, hb, two x b ha hb hu⟩
      · obtain ⟨c, h1, hc, -⟩ := PP_next hk1 hk hu
        exact ⟨c, hc, two x c hb hc h1⟩
    | x :: y :: l, _, h2, _ => exact absurd (by simp) h2
/-! ## the law's facts -/
theorem isShift_short {k : Int} {f : List ByteArray} (h : isShift k f = true) : Short f := by
  unfold isShift at h
  simp only [Bool.and_eq_true, List.all_eq_true, List.mem_range] at h
  intro x hx
  obtain ⟨i, hi, rfl⟩ := List.getElem_of_mem hx
  have h1 := h.2.2 i hi
  unfold shAt at h1
  simp only [Bool.and_eq_true] at h1
  have e : f.getD i ByteArray.empty = f[i] := by rw [List.getD_eq_getElem?_getD, List.getElem?_eq_getElem hi]; rfl
  rw [e] at h1
  have := inR_iff.1 h1.2.1
  omega
theorem inLang_of {k : Nat} {f : List ByteArray} (hs : isShift k f = true) {l : List UInt8} (hL : l.all (letOk k) = true) (h16 : l.length ≤ 16) (h : inL k f (str l) = true) : inLang k f (str l) = true := by
  have hk := isShift_letters hs
  unfold inLang isWord letters
  rw [hs, Int.toNat_natCast, bts_str, hL, inR_iff.2 hk, str_size, decide_eq_true h16, h]; rfl
/-- What the law asks of every word of the language. -/
theorem langL_facts {k n : Int} {f : List ByteArray} {x : ByteArray} (hx : x ∈ langL k f n) : 1 ≤ k ∧ k ≤ 3 ∧ 0 ≤ n ∧ n ≤ 6 ∧ (x.size : Int) = n ∧ inLang k f x = true ∧ avoidsAll k f x = true ∧
    (0 < n → inLang k f (x.extract 1 x.size) = true ∧ inLang k f (x.extract 0 (n - 1).toNat) = true) ∧ ∃ c : Nat, (c : Int) < k ∧ inLang k f (x ++ str [ltr c]) = true := by
  unfold langL at hx
  split at hx
  · rename_i hB
    unfold langB at hB
    rw [Bool.and_eq_true] at hB
    have hk := isShift_letters hB.1
    have hn := inR_iff.1 hB.2
    obtain ⟨K, rfl⟩ : ∃ K : Nat, k = K := ⟨k.toNat, by omega⟩
    obtain ⟨N, rfl⟩ : ∃ N : Nat, n = N := ⟨n.toNat, by omega⟩
    rw [Int.toNat_natCast, Int.toNat_natCast] at hx
    obtain ⟨hw, hi⟩ := List.mem_filter.1 hx
    obtain ⟨hL, hlen⟩ := words_let (by omega) (by omega) hw
    obtain ⟨l, rfl⟩ : ∃ l, x = str l := ⟨bts x, (str_bts x).symm⟩
    rw [bts_str] at hL hlen
    have hav : avo f (str l) = true := by
      cases ha : avo f (str l)
      · rw [inL_no ha] at hi; cases hi
      · rfl
    have hin := inLang_of hB.1 hL (by omega) hi
    refine ⟨by omega, by omega, by omega, by omega, by rw [str_size, hlen], hin, ?_, fun h0 => ⟨?_, ?_⟩, ?_⟩
    · unfold avoidsAll isWord letters
      rw [hB.1, bts_str, hL, inR_iff.2 hk, str_size, decide_eq_true (show l.length ≤ 16 by omega), hav]; rfl
    · match l, hL, hlen, hi with
      | [], _, hlen, _ => simp at hlen; omega
      | a :: l, hL, hlen, hi =>
        have e : (str (a :: l)).extract 1 (str (a :: l)).size = str l := by
          apply bts_inj
          rw [bts_extract, bts_str, bts_str, str_size, List.take_of_length_le (Nat.le_refl _)]; rfl
        rw [e]
        refine inLang_of hB.1 ?_ (by simp at hlen; omega) (inL_tail (by omega) (by omega) hL hi)
        rw [List.all_cons, Bool.and_eq_true] at hL; exact hL.2
    · have hne : l ≠ [] := fun e => by rw [e] at hlen; simp at hlen; omega
      obtain ⟨t, a, rfl⟩ : ∃ t c, l = t ++ [c] := ⟨l.dropLast, l.getLast hne, (List.dropLast_concat_getLast hne).symm⟩
      have hlen2 : t.length + 1 = N := by simpa using hlen
      have e : (str (t ++ [a])).extract 0 ((N : Int) - 1).toNat = str t := by
        apply bts_inj
        rw [bts_extract, bts_str, bts_str, show ((N : Int) - 1).toNat = t.length by omega, List.drop_zero, List.take_left]
      rw [e]
      refine inLang_of hB.1 ?_ (by omega) (inL_init (by omega) (by omega) hL hi)
      rw [List.all_append, Bool.and_eq_true] at hL; exact hL.1
    · obtain ⟨c, hc, hm⟩ := inL_more (isShift_short hB.1) (by omega) (by omega) hL hi
      obtain ⟨y, hy, rfl⟩ := letOk_ltr hc
      refine ⟨y, by omega, ?_⟩
      rw [← str_append]
      exact inLang_of hB.1 (by rw [List.all_append, hL]; simp [hc]) (by simp; omega) hm
  · cases hx
/-- The language is empty at a length if the shift is empty. -/
theorem langL_empty {k n : Int} {f : List ByteArray} (hs : isShift k f = true) (h0 : 0 ≤ n) (h6 : n ≤ 6) : decide ((langL k f n).length = 0) = isEmptyS k f := by
  have hk := isShift_letters hs
  obtain ⟨K, rfl⟩ : ∃ K : Nat, k = K := ⟨k.toNat, by omega⟩
  obtain ⟨N, rfl⟩ : ∃ N : Nat, n = N := ⟨n.toNat, by omega⟩
  have hB : langB (K : Int) (N : Int) f = true := langB_3 hs (inR_iff.2 ⟨h0, h6⟩)
  have e1 : langL (K : Int) f (N : Int) = (words K N).filter (inL K f) := by unfold langL; rw [if_pos hB, Int.toNat_natCast, Int.toNat_natCast]
  rw [e1]
  unfold isEmptyS
  rw [hs, Bool.true_and, Int.toNat_natCast]
  by_cases hp : (pairs K f).length = 0
  · rw [decide_eq_true hp]
    have hp2 := List.length_eq_zero_iff.1 hp
    refine decide_eq_true ?_
    rw [List.length_eq_zero_iff, List.filter_eq_nil_iff]
    intro x _ h
    rw [inL_none hp2] at h; cases h
  · rw [decide_eq_false hp]
    refine decide_eq_false ?_
    have key : ∀ t, ∃ l : List UInt8, l.length = t ∧ l.all (letOk K) = true ∧ inL K f (str l) = true := by
      intro t
      induction t with
      | zero =>
        obtain ⟨u, hu⟩ : ∃ u, u ∈ pairs K f := by
          cases e : pairs K f with
          | nil => rw [e] at hp; exact absurd rfl hp
          | cons u l => exact ⟨u, List.mem_cons_self ..⟩
        exact ⟨[], rfl, rfl, (inL_short (by simp)).2 ⟨u, hu, List.nil_infix⟩⟩
      | succ t ih =>
        obtain ⟨l, h1, h2, h3⟩ := ih
        obtain ⟨c, hc, hm⟩ := inL_more (isShift_short hs) (by omega) (by omega) h2 h3
        exact ⟨l ++ [c], by simp [h1], by rw [List.all_append, h2]; simp [hc], hm⟩
    obtain ⟨l, h1, h2, h3⟩ := key N
    rw [List.length_eq_zero_iff]
    intro e
    have hm : str l ∈ (words K N).filter (inL K f) := List.mem_filter.2 ⟨mem_words N l h1 h2, h3⟩
    rw [e] at hm; cases hm
end Go.Proofs.YtkohadoicebojaaGreatDoor
