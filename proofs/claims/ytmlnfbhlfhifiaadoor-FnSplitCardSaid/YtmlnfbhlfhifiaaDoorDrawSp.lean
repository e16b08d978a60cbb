/- What FnSplit draws and the plain facts on splitting. No statement is proved here. -/
import Derived.Test.YtmlnfbhlfhifiaaDoorDraw
import Derived.Test.YtmlnfbhlfhifiaaDoorSplit
import Derived.Test.YtmlnfbhlfhifiaaDoorJoin
namespace Go.Proofs.YtmlnfbhlfhifiaaDoor
open Go.RowKit Go.Deep
theorem lit_cell (w : World) (L : List Value) (e : TypeId) {j : Nat} {x : Value} (h : L[j]? = some x) : (w.alloc (.cells L.toArray e)).cell? ⟨w.heap.size, j, none⟩ = some x := by
  obtain ⟨hj, hx⟩ := List.getElem?_eq_some_iff.1 h
  have hr := World.rowIs_alloc w L.toArray e (fun i => L.getD i x) (fun i hi => by
    have hi' : i < L.length := by simpa using hi
    simp [List.getD, List.getElem?_eq_getElem hi'])
  have hc := hr.cell (i := j) (by simpa using hj)
  rw [hc]
  simp [List.getD, h]
theorem growN {B N : Nat} {w w' : World} (h : w.grownBy w' (some N)) (hN : B ≤ N) (hB : B ≤ w.heap.size) : Below B w w' :=
  ⟨h.os, h.tape, h.output, h.size, fun k hk => h.block k (by omega) (fun e => by have := Option.some.inj e; omega)⟩
theorem Cur.lt {w0 w : World} {N n : Nat} {v : Value} (h : Cur w0 N v n w) : N < w.heap.size := by
  obtain ⟨_, _, i, k, _, hr⟩ := h
  exact hr.lt
set_option maxRecDepth 10000 in
set_option maxHeartbeats 400000 in
theorem dSplit (v : Value) (l : List UInt8) (w : World) (hv : BytesV w v l) :
    Calls Tryd.prog 11 #[v] w fun e w' => ∃ (s : ByteArray) (b : UInt8), e = .returned (.tuple #[.string s, .int .u8 (b.toNat : Int)]) ∧ s.size ≤ 10 ∧ Below w.heap.size w w' := by
  obtain ⟨a, cap, rfl, _, _⟩ := Row.open hv
  go_enter Tryd.func11, Tryd.ntmps11
  go_wp2_with fail
  refine (l1New _ l _ hv).mono ?_
  rintro e w1 ⟨N, rfl, hC, b1⟩
  have hN := hC.1
  have hlt := hC.lt
  have hx : ∀ (u : World) o, Below u.heap.size u (u.alloc o) := fun u o => below_alloc u o
  have hz : ∀ (u : World) o, (u.alloc o).heap.size = u.heap.size + 1 := fun u o => by simp
  go_wp2_with fail
  refine (l1Pick w N l.length _ l _ hv rfl (hC.keep (hx _ _)) w1.heap.size (by omega) [⟨#[]⟩, ⟨#[97]⟩, ⟨#[97, 44, 98]⟩, ⟨#[44]⟩, ⟨#[97, 44, 44, 98, 44]⟩, ⟨#[97, 10, 98, 10]⟩] 6 rfl (by omega) (by omega) (fun j x hj => lit_cell w1 [.string ⟨#[]⟩, .string ⟨#[97]⟩, .string ⟨#[97, 44, 98]⟩, .string ⟨#[44]⟩, .string ⟨#[97, 44, 44, 98, 44]⟩, .string ⟨#[97, 10, 98, 10]⟩] 9 (by
    have : (strs [⟨#[]⟩, ⟨#[97]⟩, ⟨#[97, 44, 98]⟩, ⟨#[44]⟩, ⟨#[97, 44, 44, 98, 44]⟩, ⟨#[97, 10, 98, 10]⟩])[j]? = some (.string x) := by rw [strs_get?, hj]; rfl
    exact this)) 6).mono ?_
  rintro e w2 ⟨s, rfl, hs, hC2, hg2⟩
  have hs10 : s.size ≤ 10 := by
    simp only [List.mem_cons, List.not_mem_nil, or_false] at hs
    rcases hs with rfl | rfl | rfl | rfl | rfl | rfl <;> decide
  have z2 := hg2.size
  rw [hz] at z2
  have b2 := (b1.trans ((hx w1 _).mono b1.size)).trans (growN hg2 hN (by rw [hz]; have := b1.size; omega))
  clear hs hg2 hC
  have hlt2 := hC2.lt
  go_wp2_with fail
  refine (l1PickInt w N l.length _ l _ hv rfl (hC2.keep (hx _ _)) w2.heap.size (by omega) [44, 10] 2 rfl (by omega) (by omega) (fun j x hj => lit_cell w2 [.int .i64 44, .int .i64 10] 3 (by
    have : (ints [44, 10])[j]? = some (.int .i64 x) := by rw [ints_get?, hj]; rfl
    exact this)) 2).mono ?_
  rintro e w3 ⟨x, rfl, hx3, hC3, hg3⟩
  have b3 := (b2.trans ((hx w2 _).mono b2.size)).trans (growN hg3 hN (by rw [hz]; have := b2.size; omega))
  simp only [List.mem_cons, List.not_mem_nil, or_false] at hx3
  rcases hx3 with rfl | rfl
  · go_wp2
    go_ret2
    exact ⟨s, 44, rfl, hs10, b3⟩
  · go_wp2
    go_ret2
    exact ⟨s, 10, rfl, hs10, b3⟩
theorem cutA_ne (b : UInt8) : ∀ r acc, cutA b acc r ≠ [] := by
  intro r
  induction r with
  | nil => intro acc; simp [cutA]
  | cons x r ih =>
    intro acc
    unfold cutA
    split
    · simp
    · exact ih _
theorem join_cut (b : UInt8) : ∀ r acc, Lib.join (cutA b acc r) [b] = acc ++ r := by
  intro r
  induction r with
  | nil => intro acc; rw [cutA, Lib.join_one, List.append_nil]
  | cons x r ih =>
    intro acc
    unfold cutA
    by_cases h : x = b
    · subst h
      rw [if_pos rfl, Lib.join_cons]
      have h2 := ih []
      cases hc : cutA x [] r with
      | nil => exact absurd hc (cutA_ne _ _ _)
      | cons y t =>
        rw [hc, Lib.join_cons, List.nil_append] at h2
        simp [Lib.joinTail] at h2 ⊢
        exact h2
    · rw [if_neg h, ih]; simp
theorem cut_none (b : UInt8) : ∀ r acc, b ∉ r → cutA b acc r = [acc ++ r] := by
  intro r
  induction r with
  | nil => intro acc _; rw [cutA, List.append_nil]
  | cons x r ih =>
    intro acc h
    have h1 : ¬ x = b := fun e => h (by rw [e]; exact List.mem_cons_self ..)
    rw [cutA, if_neg h1, ih _ fun hb => h (List.mem_cons_of_mem _ hb)]; simp
theorem cut_mem (b : UInt8) : ∀ r acc, b ∉ acc → ∀ p ∈ cutA b acc r, b ∉ p := by
  intro r
  induction r with
  | nil =>
    intro acc h p hp
    have e : p = acc := by simpa [cutA] using hp
    rw [e]; exact h
  | cons x r ih =>
    intro acc h p hp
    unfold cutA at hp
    by_cases e : x = b
    · rw [if_pos e] at hp
      rcases List.mem_cons.1 hp with hp | hp
      · rw [hp]; exact h
      · exact ih [] (by simp) p hp
    · rw [if_neg e] at hp
      exact ih _ (by simp [h]; exact fun e2 => e e2.symm) p hp
theorem cut_sum (b : UInt8) : ∀ r acc, ((cutA b acc r).map List.length).sum ≤ acc.length + r.length := by
  intro r
  induction r with
  | nil => intro acc; simp [cutA]
  | cons x r ih =>
    intro acc
    unfold cutA
    by_cases h : x = b
    · rw [if_pos h]
      have := ih []
      simp at this ⊢; omega
    · rw [if_neg h]
      have := ih (acc ++ [x])
      simp at this ⊢; omega
theorem splL_total (s : ByteArray) (b : UInt8) : totalS (splL s b) ≤ s.size := by
  have h := cut_sum b (bts s) []
  unfold totalS splL
  rw [List.map_map]
  have e : (cutA b [] (bts s)).map (ByteArray.size ∘ str) = (cutA b [] (bts s)).map List.length := List.map_congr_left fun p _ => str_size p
  rw [e]
  rw [bts_length] at h
  simpa using h
theorem joined_splL (s : ByteArray) (b : UInt8) : joined (splL s b) (str [b]) = s := by
  have e : (splL s b).map bts = cutA b [] (bts s) := by
    unfold splL
    rw [List.map_map]
    exact (List.map_congr_left fun x _ => bts_str x).trans (List.map_id _)
  unfold joined
  rw [e, bts_str, join_cut, List.nil_append, str_bts]
theorem splL_part {s p : ByteArray} {b : UInt8} (h : p ∈ splL s b) : splL p b = [p] := by
  obtain ⟨q, hq, rfl⟩ := List.mem_map.1 h
  have h1 := cut_mem b (bts s) [] (by simp) q hq
  unfold splL
  rw [bts_str, cut_none b q [] h1]; rfl
end Go.Proofs.YtmlnfbhlfhifiaaDoor
