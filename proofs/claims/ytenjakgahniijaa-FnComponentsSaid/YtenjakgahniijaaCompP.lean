/- The components of an irreducible matrix: plain facts, with no program in sight. No statement is proved here. -/
import Derived.Test.YtenjakgahniijaaPrimP
import Derived.Test.YtenjakgahniijaaComp
namespace Go.Proofs.Ytenjakgahniijaa
open Go.RowKit Go.Deep
theorem irr_all {m : List (List Int)} {n : Nat} (h : irr m = true) (hn : m.length = n) {i j : Nat} (hi : i < n) (hj : j < n) : rF m n i j = 1 := by
  have hm := irr_mat h
  unfold irr at h
  rw [Bool.and_eq_true, reachM_yes hm hn, List.all_eq_true] at h
  have h1 := h.2 _ (List.mem_of_getElem? (tabF_get hi))
  unfold noZero at h1
  rw [List.all_eq_true] at h1
  have h2 := h1 _ (List.mem_of_getElem? (rowF_get hj))
  rcases wAll_bits n (bit_bits m) n i j with e | e
  · rw [e] at h2; exact absurd h2 (by decide)
  · exact e
theorem clsTo_all {R : Nat → Nat → Int} {n i : Nat} (hi : i < n) (h : ∀ i j, i < n → j < n → R i j = 1) : ∀ j, j ≤ n → clsTo R i j = rowF j fun a => a := by
  intro j
  induction j with
  | zero => intro _; rfl
  | succ j ih =>
    intro hj
    have hb : both R i j = true := both_iff.2 ⟨h i j hi (by omega), h j i (by omega) hi⟩
    rw [clsTo, ih (by omega), hb, if_pos rfl, rowF_succ]
theorem compTo_all {R : Nat → Nat → Int} {n : Nat} (h : ∀ i j, i < n → j < n → R i j = 1) : ∀ i, 1 ≤ i → i ≤ n → compTo R n i = [rowF n fun a => a] := by
  intro i
  induction i with
  | zero => intro h; omega
  | succ i ih =>
    intro _ hi
    have hn : 0 < n := by omega
    rw [compTo]
    by_cases e : i = 0
    · subst e
      have hh : isHd R n 0 = true := (isHd_iff hn).2 ⟨both_iff.2 ⟨h 0 0 hn hn, h 0 0 hn hn⟩, fun k hk => by omega⟩
      rw [if_pos hh, clsTo_all hn h n (Nat.le_refl _)]; rfl
    · have hh : ¬ isHd R n i = true := fun hc => by
        have h2 := ((isHd_iff (by omega)).1 hc).2 0 (by omega)
        rw [both_iff.2 ⟨h i 0 (by omega) hn, h 0 i hn (by omega)⟩] at h2
        cases h2
      rw [if_neg hh, ih (by omega) (by omega), List.append_nil]
theorem comps_irr {m : List (List Int)} {n : Nat} (h : irr m = true) (hl : m.length = n) : compsOf m = [rowF n fun a => a] := by
  have hm := irr_mat h
  have hb := isMat_len hm
  rw [compsOf_yes hm hl]
  exact compTo_all (fun i j hi hj => irr_all h hl hi hj) n (by omega) (Nat.le_refl _)
end Go.Proofs.Ytenjakgahniijaa
