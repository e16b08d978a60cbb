/- ParseShift, the program's and the reference's. No statement is proved here. -/
import Derived.Test.YtloicjojhfpihaaDoorParseI
import Derived.Test.YtloicjojhfpihaaDoorMarkSh
import Derived.Test.YtloicjojhfpihaaDoorAppLs
namespace Go.Proofs.YtloicjojhfpihaaDoor
open Go.RowKit Go.Deep
/-- A slice of texts that the call owns; it may begin behind the first of its block. -/
def OwnX (te : TypeId) (B : Nat) (w : World) (v : Value) (l : List ByteArray) : Prop :=
  Own te B w v (strs l) ∨ ∃ g o p cap, v = .slice (some ⟨g, o, none⟩) l.length cap ∧ (l = [] ∨ o = 1) ∧ Own te B w (.slice (some ⟨g, 0, none⟩) (l.length + 1) (cap + 1)) (strs (p :: l))
theorem OwnX.keep {te : TypeId} {B : Nat} {w w' : World} {v : Value} {l : List ByteArray} (h : OwnX te B w v l) (hb : Below w.heap.size w w') : OwnX te B w' v l := by
  rcases h with h | ⟨g, o, p, cap, h1, h0, h2⟩
  · exact .inl (h.keep hb)
  · exact .inr ⟨g, o, p, cap, h1, h0, h2.keep hb⟩
theorem OwnX.mono {te : TypeId} {B B' : Nat} {w : World} {v : Value} {l : List ByteArray} (h : OwnX te B w v l) (hb : B' ≤ B) : OwnX te B' w v l := by
  rcases h with h | ⟨g, o, p, cap, h1, h0, h2⟩
  · exact .inl (h.mono hb)
  · exact .inr ⟨g, o, p, cap, h1, h0, h2.mono hb⟩
theorem OwnX.lt {te : TypeId} {B : Nat} {w : World} {v : Value} {l : List ByteArray} (h : OwnX te B w v l) : ∀ k, v.ownBlock = some k → B ≤ k ∧ k < w.heap.size := by
  rcases h with h | ⟨g, o, p, cap, rfl, h0, h2⟩
  · exact h.lt
  · exact fun k hk => h2.lt k hk
theorem OwnX.grown {te : TypeId} {B : Nat} {w w' : World} {v : Value} {l : List ByteArray} {row : Option Nat} (h : OwnX te B w v l) (hg : w.grownBy w' row) (hne : v.ownBlock = none ∨ v.ownBlock ≠ row) : OwnX te B w' v l := by
  rcases h with h | ⟨g, o, p, cap, rfl, h0, h2⟩
  · exact .inl (h.grown hg hne)
  · exact .inr ⟨g, o, p, cap, rfl, h0, h2.grown hg hne⟩
theorem OwnX.below {te : TypeId} {B C : Nat} {w w' : World} {v : Value} {l : List ByteArray} (h : OwnX te B w v l) (hg : w.grownBy w' v.ownBlock) (hC : C ≤ B) (hs : C ≤ w.heap.size) : Below C w w' := by
  rcases h with h | ⟨g, o, p, cap, rfl, h0, h2⟩
  · exact h.below hg hC hs
  · exact h2.below hg hC hs
theorem OwnX.setBelow {te : TypeId} {B : Nat} {w : World} {v : Value} {l : List ByteArray} (h : OwnX te B w v l) {a : Addr} (ha : a.block < B) (u : Value) : OwnX te B (w.setCell a u) v l := by
  rcases h with h | ⟨g, o, p, cap, h1, h0, h2⟩
  · exact .inl (h.setCell_below ha u)
  · exact .inr ⟨g, o, p, cap, h1, h0, h2.setCell_below ha u⟩
theorem own_tail_cell {te : TypeId} {B g n c : Nat} {w : World} {p : ByteArray} {l : List ByteArray} (h : Own te B w (.slice (some ⟨g, 0, none⟩) n c) (strs (p :: l))) {j : Nat} {x : ByteArray} (hx : (p :: l)[j]? = some x) : w.cell? ⟨g, j, none⟩ = some (.string x) := by
  obtain ⟨g', c', e, _, hc, _⟩ := h.at (show (strs (p :: l))[j]? = some (.string x) by rw [strs_get?, hx]; rfl)
  simp only [Value.slice.injEq, Option.some.injEq, Addr.mk.injEq, and_true] at e
  obtain ⟨rfl, _⟩ := e
  exact hc
theorem OwnX.strs {te : TypeId} {B : Nat} {w : World} {v : Value} {l : List ByteArray} (h : OwnX te B w v l) : Strs w v l := by
  rcases h with h | ⟨g, o, p, cap, rfl, h0, h2⟩
  · exact h.row
  · have h3 := h2.row
    obtain ⟨a, c, e, hl, hm, -⟩ := h3
    simp only [Value.slice.injEq] at e
    obtain ⟨rfl, -, rfl⟩ := e
    rw [strs_length, List.length_cons] at hl
    refine ⟨some ⟨g, o, none⟩, cap, by rw [strs_length], by rw [strs_length]; omega, by omega, fun i hi => ⟨g, o, rfl, ?_⟩⟩
    rw [strs_length] at hi
    rcases h0 with rfl | rfl
    · simp at hi
    rw [strs_get, Nat.add_comm]
    exact own_tail_cell h2 (by simp [hi])
theorem own_tail {te : TypeId} {B : Nat} {w : World} {v : Value} {p : ByteArray} {l : List ByteArray} (h : Own te B w v (strs (p :: l))) :
    ∃ g cap, v = .slice (some ⟨g, 0, none⟩) (l.length + 1) (cap + 1) ∧ w.cell? ⟨g, 0, none⟩ = some (.string p) ∧ OwnX te B w (.slice (some ⟨g, if cap = 0 then 0 else 1, none⟩) l.length cap) l ∧ l.length ≤ cap ∧ cap + 1 ≤ maxLen := by
  have h0 := h
  obtain ⟨_, ⟨_, h1⟩ | ⟨g, cap, cur, rfl, hB, hg, hnc, hcm, hcs, ht⟩⟩ := h
  · rw [strs_length] at h1; simp at h1
  · have e1 : (strs (p :: l)).length = l.length + 1 := by rw [strs_length]; rfl
    rw [e1] at h0 hnc ⊢
    obtain ⟨c, rfl⟩ : ∃ c, cap = c + 1 := ⟨cap - 1, by omega⟩
    refine ⟨g, c, rfl, own_tail_cell h0 rfl, .inr ⟨g, _, p, c, rfl, ?_, h0⟩, by omega, hcm⟩
    by_cases hc : c = 0
    · subst hc
      exact .inl (List.length_eq_zero_iff.1 (by omega))
    · rw [if_neg hc]; exact .inr rfl
set_option maxRecDepth 10000 in
set_option maxHeartbeats 400000 in
theorem markStringT (B g cap : Nat) (p : ByteArray) (l : List ByteArray) (k : Nat) (w : World) (h : Own 9 B w (.slice (some ⟨g, 0, none⟩) (l.length + 1) (cap + 1)) (strs (p :: l))) (hn : l.length ≤ 2000000) (hk : k ≤ 2000000) :
    Calls Tryd.prog 22 #[.slice (some ⟨g, 1, none⟩) l.length cap, .int .i64 k] w fun e w' => e = .returned (.int .i64 ((k + l.length : Nat) : Int)) ∧ Own 9 B w' (.slice (some ⟨g, 0, none⟩) (l.length + 1) (cap + 1)) (strs (p :: smarks k l.length)) ∧ w.grownBy w' (some g) := by
  obtain ⟨n, hl⟩ : ∃ n, l.length = n := ⟨_, rfl⟩
  rw [hl] at hn h ⊢
  have HL := Lib.hid hl; clear hl
  go_enter Tryd.func22, Tryd.ntmps22
  go_wp2
  go_loopw [1, 5] (fun q i wr => ∃ j : Nat, j ≤ n ∧ i = .int .i64 j ∧ q = .int .i64 ((k + j : Nat) : Int) ∧ Own 9 B wr (.slice (some ⟨g, 0, none⟩) (n + 1) (cap + 1)) (strs (p :: smarkTo k l j)) ∧ w.grownBy wr (some g)) (fun _ i _ => n - (intOf i).toNat)
  case atStart => exact ⟨0, Nat.zero_le _, rfl, rfl, by rw [smarkTo_zero]; exact h, World.grownBy.refl _ _⟩
  case round =>
    obtain ⟨j, hj, rfl, rfl, ho, hg⟩ := hrel
    by_cases hlt : j < n
    · go_wp2_with fail
      refine (markText (k + j) _ (by omega)).mono ?_
      rintro e w2 ⟨rfl, hb2⟩
      have ho2 := ho.keep hb2
      obtain ⟨x, hx⟩ := smarkTo_get k (show j < l.length by rw [HL.out]; exact hlt)
      obtain ⟨g', c, e, hB, hc, hf, hset⟩ := ho2.at (show (strs (p :: smarkTo k l j))[j + 1]? = some (.string x) by rw [strs_get?, List.getElem?_cons_succ, hx]; rfl)
      simp only [Value.slice.injEq, Option.some.injEq, Addr.mk.injEq, and_true] at e
      obtain ⟨rfl, e2, e3⟩ := e
      clear e2 e3
      obtain ⟨h1, hg1⟩ := hset (.string (mtx (k + j)))
      have HS : Hid ((strs (p :: smarkTo k l j)).set (j + 1) (.string (mtx (k + j))) = strs (p :: smarkTo k l (j + 1))) := Lib.hid (by
        have := smarkTo_step k (show j < l.length by rw [HL.out]; exact hlt)
        unfold strs at this ⊢
        rw [List.map_cons, List.set_cons_succ, this, List.map_cons])
      rw [HS.out] at h1
      have hg3 := growT (growT hg (growB hb2 none) (.inr fun k hk => by cases hk)) hg1 (.inl rfl)
      rw [Nat.add_comm j 1] at hc hf h1 hg1 hg3
      clear hset ho hg ho2 hg1
      go_wp2
      go_roundw
      case rel => exact ⟨j + 1, by omega, by go_num, by go_num, by rw [Nat.add_comm j 1]; rw [Nat.add_comm 1 j] at h1 ⊢; exact h1, hg3⟩
      case measure => simp [intOf]; omega
    · have e : j = n := by omega
      subst e
      have HAL : Hid (smarkTo k l j = smarks k j) := Lib.hid (by have := smarkTo_all k l; rwa [HL.out] at this)
      rw [HAL.out] at ho
      go_wp2
      go_ret
      exact ⟨rfl, ho, hg⟩
set_option maxRecDepth 10000 in
set_option maxHeartbeats 400000 in
theorem markNil (a : Option Addr) (cap k : Nat) (w : World) (_ : k ≤ 2000000) :
    Calls Tryd.prog 22 #[.slice a 0 cap, .int .i64 k] w fun e w' => e = .returned (.int .i64 k) ∧ w = w' := by
  go_enter Tryd.func22, Tryd.ntmps22
  go_wp2
  go_loopw [1, 5] (fun q i wr => i = .int .i64 0 ∧ q = .int .i64 k ∧ w = wr) (fun _ _ _ => 0)
  case atStart => exact ⟨rfl, rfl, rfl⟩
  case round =>
    obtain ⟨rfl, rfl, rfl⟩ := hrel
    go_wp2
    go_ret
    exact ⟨rfl, rfl⟩
theorem markStringX (B : Nat) (v : Value) (l : List ByteArray) (k : Nat) (w : World) (h : OwnX 9 B w v l) (hn : l.length ≤ 2000000) (hk : k ≤ 2000000) :
    Calls Tryd.prog 22 #[v, .int .i64 k] w fun e w' => e = .returned (.int .i64 ((k + l.length : Nat) : Int)) ∧ OwnX 9 B w' v (smarks k l.length) ∧ w.grownBy w' v.ownBlock := by
  rcases h with h | ⟨g, o, p, cap, rfl, h0, h2⟩
  · refine (markStringS B v l k w h hn hk).mono ?_
    rintro e w' ⟨rfl, ho, hg⟩
    exact ⟨rfl, .inl ho, hg⟩
  · rcases h0 with rfl | rfl
    · refine (markNil _ cap k w hk).mono ?_
      rintro e w' ⟨rfl, rfl⟩
      exact ⟨rfl, .inr ⟨g, o, p, cap, rfl, .inl rfl, h2⟩, World.grownBy.refl _ _⟩
    · refine (markStringT B g cap p l k w h2 hn hk).mono ?_
      rintro e w' ⟨rfl, ho, hg⟩
      exact ⟨rfl, .inr ⟨g, 1, p, cap, by rw [smarks_length], .inr rfl, by rw [smarks_length]; exact ho⟩, hg⟩
theorem OwnX.form {te : TypeId} {B : Nat} {w : World} {v : Value} {l : List ByteArray} (h : OwnX te B w v l) : ∃ a cap, v = .slice a l.length cap := by
  rcases h with h | ⟨g, o, p, cap, rfl, h0, h2⟩
  · exact h.form (strs_length l)
  · exact ⟨_, _, rfl⟩
set_option maxRecDepth 10000 in
set_option maxHeartbeats 400000 in
theorem markShiftX (B : Nat) (c : Int) (v : Value) (l : List ByteArray) (k : Nat) (w : World) (h : OwnX 9 B w v l) (hn : l.length ≤ 2000000) (hk : k ≤ 2000000) :
    Calls Tryd.prog 8 #[.agg #[.int .i64 c, v], .int .i64 k] w fun e w' => e = .returned (.int .i64 ((k + l.length : Nat) : Int)) ∧ OwnX 9 B w' v (smarks k l.length) ∧ w.grownBy w' v.ownBlock := by
  have hb := below_alloc w (.cells #[.int .i64 c, v] 24)
  have ho := h.keep hb
  obtain ⟨a, cap, rfl⟩ := h.form
  clear h
  go_enter Tryd.func8, Tryd.ntmps8
  go_wp2_with fail
  refine (markStringX B _ l k _ ho hn hk).mono ?_
  rintro e w2 ⟨rfl, om, hg⟩
  go_wp2
  go_ret
  exact ⟨rfl, om, growT (growB hb _) hg (.inl rfl)⟩
/-- What reading a shift gives. -/
def ShR (s : ByteArray) (c : Int) (l : List ByteArray) (b : Bool) : Prop := (b = true ∧ splL s 32 = fmtI c :: l ∧ isShift c l = true) ∨ (b = false ∧ c = 0 ∧ l = [] ∧ ∀ c' l', isShift c' l' = true → splL s 32 = fmtI c' :: l' → False)
theorem isShift_num {c : Int} {l : List ByteArray} (h : isShift c l = true) : 1 ≤ c ∧ c ≤ 3 := by
  unfold isShift at h
  simp only [Bool.and_eq_true] at h
  exact inR_iff.1 h.1
theorem ShR.eq {s : ByteArray} {c c' : Int} {l l' : List ByteArray} {b b' : Bool} (h : ShR s c l b) (k : ShR s c' l' b') : c = c' ∧ l = l' ∧ b = b' := by
  rcases h with ⟨rfl, h1, h2⟩ | ⟨rfl, rfl, rfl, h⟩
  · rcases k with ⟨rfl, k1, k2⟩ | ⟨rfl, rfl, rfl, k⟩
    · rw [h1] at k1
      injection k1 with k1 k3
      have n1 := isShift_num h2
      have n2 := isShift_num k2
      have f1 := fmtI_atoi (n := c) (by omega) (by omega) k1
      have f2 := fmtI_atoi (n := c') (by omega) (by omega) rfl
      rw [f1] at f2
      injection f2 with f2
      exact ⟨f2, k3, rfl⟩
    · exact (k c l h2 h1).elim
  · rcases k with ⟨rfl, k1, k2⟩ | ⟨rfl, rfl, rfl, k⟩
    · exact (h c' l' k2 k1).elim
    · exact ⟨rfl, rfl, rfl⟩
theorem shR_bad {s p : ByteArray} {l : List ByteArray} {lo hi n : Int} (hL : splL s 32 = p :: l) (hlo : lo ≤ 1) (hhi : 3 ≤ hi) (h : Rd lo hi p n false) : ShR s 0 [] false := by
  refine .inr ⟨rfl, rfl, rfl, fun c' l' h1 h2 => ?_⟩
  have h3 := isShift_num h1
  rw [hL] at h2
  injection h2 with h2
  rcases h with ⟨h4, _⟩ | ⟨_, _, h4⟩
  · cases h4
  · exact h4 c' (by omega) (by omega) h2.symm
theorem shR_yes {s p : ByteArray} {l : List ByteArray} {lo hi n : Int} (hL : splL s 32 = p :: l) (h : Rd lo hi p n true) (hi : isShift n l = true) : ShR s n l true := by
  refine .inl ⟨rfl, ?_, hi⟩
  rw [hL, (rd_true h).2.2]
theorem shR_no {s p : ByteArray} {l : List ByteArray} {lo hi n : Int} (hL : splL s 32 = p :: l) (hlo : -9223372036854775808 ≤ lo) (hhi : hi ≤ 9223372036854775807) (h : Rd lo hi p n true) (hn : isShift n l = false) : ShR s 0 [] false := by
  refine .inr ⟨rfl, rfl, rfl, fun c' l' h1 h2 => ?_⟩
  have h3 := isShift_num h1
  obtain ⟨r1, r2, r3⟩ := rd_true h
  rw [hL, ← r3] at h2
  injection h2 with h2 h4
  have f1 := fmtI_atoi (n := n) (by omega) (by omega) h2
  have f2 := fmtI_atoi (n := c') (by omega) (by omega) rfl
  rw [f1] at f2
  injection f2 with f2
  rw [f2, h4, h1] at hn
  cases hn
theorem splL_cons (s : ByteArray) (b : UInt8) : ∃ p l, splL s b = p :: l := by
  have h := splL_len s b
  cases e : splL s b with
  | nil => rw [e] at h; simp at h
  | cons p l => exact ⟨p, l, rfl⟩
def ShE (s : ByteArray) (w : World) (e : Ending) (w' : World) : Prop := ∃ c v l b, e = .returned (.tuple #[.agg #[.int .i64 c, v], .bool b]) ∧ OwnX 9 w.heap.size w' v l ∧ Hid (ShR s c l b) ∧ Below w.heap.size w w'
theorem shE {s : ByteArray} {w w' : World} {e : Ending} {c : Int} {v : Value} {l : List ByteArray} {b : Bool} (h : e = .returned (.tuple #[.agg #[.int .i64 c, v], .bool b])) (h1 : OwnX 9 w.heap.size w' v l) (h2 : Hid (ShR s c l b)) (h3 : Below w.heap.size w w') : ShE s w e w' := ⟨c, v, l, b, h, h1, h2, h3⟩
theorem OwnX.nil (te : TypeId) (B : Nat) (w : World) : OwnX te B w (.slice none 0 0) [] := .inl ⟨rfl, .inl ⟨rfl, rfl⟩⟩
set_option maxRecDepth 10000 in
set_option maxHeartbeats 400000 in
theorem iParseShift (s : ByteArray) (w : World) (hs : s.size ≤ 1048576) (hm : Ml w) (ht : Tb w) (hev : Ev w) :
    Calls Tryd.prog 6 #[.string s] w (ShE s w) := by
  have hb0 := below_alloc w (.cells #[.int .i64 0, .slice none 0 0] 24)
  have z0 : (w.alloc (.cells #[.int .i64 0, .slice none 0 0] 24)).heap.size = w.heap.size + 1 := by simp
  have hSp := Lib.hid (iStrSplit s 32 (w.alloc (.cells #[.int .i64 0, .slice none 0 0] 24)) (hm.keep hb0) hs)
  have hlen := splL_small s 32 hs
  have HP : ∀ x ∈ splL s 32, x.size ≤ 1048576 := fun x hx => Nat.le_trans (part_size hx) hs
  obtain ⟨p, l, hL⟩ := splL_cons s 32
  rw [hL] at hSp HP hlen
  have hps := HP p (List.mem_cons_self ..)
  have HZ : Hid (∀ x ∈ l, x.size ≤ 1048576) := Lib.hid fun x hx => HP x (List.mem_cons_of_mem _ hx)
  have HB : Hid (∀ n, Rd 0 999999 p n false → ShR s 0 [] false) := Lib.hid fun n h => shR_bad hL (by omega) (by omega) h
  have HY : Hid (∀ n, Rd 0 999999 p n true → isShift n l = true → ShR s n l true) := Lib.hid fun n h => shR_yes hL h
  have HN : Hid (∀ n, Rd 0 999999 p n true → isShift n l = false → ShR s 0 [] false) := Lib.hid fun n h => shR_no hL (by omega) (by omega) h
  rw [List.length_cons] at hlen
  clear hL HP
  go_enter Tryd.func6, Tryd.ntmps6
  go_wp2_with fail
  refine hSp.out.mono ?_
  rintro e w1 ⟨v1, rfl, (ho1 : OwnS _ _ _ _ _), hb1⟩
  obtain ⟨g, cap, rfl, c1, hX, hlc, hcm⟩ := own_tail ho1
  have b1 : Below w.heap.size w w1 := hb0.trans (hb1.mono (by omega))
  have d1 : w1.cell? ⟨w.heap.size, 0, none⟩ = some (.int .i64 0) := cell_keep hb1 (by simp)
  have d2 : w1.cell? ⟨w.heap.size, 1, none⟩ = some (.slice none 0 0) := cell_keep hb1 (by simp)
  have hXs := hX.strs
  rw [z0] at hX
  clear hSp ho1
  go_wp2_with fail
  refine (iParseNumber p _ hps (ht.keep b1) (hev.keep b1)).mono ?_
  rintro e w2 ⟨k, ok, rfl, HR, hb2⟩
  have b2 : Below w.heap.size w w2 := b1.trans (hb2.mono b1.size)
  have f1 : w2.frozen? ⟨w.heap.size, 0, none⟩ = false := by
    rw [hb2.frozen (p := ⟨w.heap.size, 0, none⟩) (show w.heap.size < w1.heap.size by have := hb1.size; omega), hb1.frozen (p := ⟨w.heap.size, 0, none⟩) (show w.heap.size < _ by omega)]; simp
  have f2 : w2.frozen? ⟨w.heap.size, 1, none⟩ = false := by
    rw [hb2.frozen (p := ⟨w.heap.size, 1, none⟩) (show w.heap.size < w1.heap.size by have := hb1.size; omega), hb1.frozen (p := ⟨w.heap.size, 1, none⟩) (show w.heap.size < _ by omega)]; simp
  have z1 : w.heap.size < w2.heap.size := by have := hb1.size; have := hb2.size; omega
  have q1 := cell_keep hb2 d1
  have q2 := cell_keep hb2 d2
  replace hX := hX.keep hb2
  replace hXs := hXs.keep hb2
  clear d1 d2 hb1 hb0 b1 hb2 c1
  obtain ⟨n, hn⟩ : ∃ n, l.length = n := ⟨_, rfl⟩
  rw [hn] at hlen hlc hX hXs ⊢
  have HLN := Lib.hid hn; clear hn
  by_cases hc0 : cap = 0
  · subst hc0
    rw [if_pos rfl] at hX hXs
    obtain rfl : n = 0 := by omega
    cases ok with
    | false =>
      have HF := Lib.hid (HB.out k HR.out)
      clear HB HY HN HZ hX hXs
      go_wp2
      refine bodyPost_ret (v := .tuple #[.agg #[.int .i64 0, .slice none 0 0], .bool false]) (by simp [results, Tryd.results6, go_sem, z1, q1, q2]) rfl ?_
      exact shE rfl (OwnX.nil _ _ _) HF (((b2.setCell (p := ⟨w.heap.size, 0, none⟩) (Nat.le_refl _) _).setCell (p := ⟨w.heap.size, 1, none⟩) (Nat.le_refl _) _).alloc (by simp; omega) _)
    | true =>
      have hx : ∀ o, Below w2.heap.size w2 (w2.alloc o) := fun o => below_alloc w2 o
      cases hi : isShift k l
      · have HF := Lib.hid (HN.out k HR.out hi)
        have HI := Lib.hid hi; clear hi
        go_wp2_with fail
        refine (iIsShift k _ l _ (hXs.keep (hx _)) HZ.out).mono ?_
        rintro e w3 ⟨rfl, hb3⟩
        have z3 : w2.heap.size + 1 ≤ w3.heap.size := by have := hb3.size; simp only [World.size_alloc] at this; omega
        have b3 : Below w.heap.size w w3 := (b2.trans ((hx _).mono b2.size)).trans (hb3.mono (Nat.le_trans b2.size (hx _).size))
        have r0 := cell_keep hb3 (cell_keep (hx (.cells #[.int .i64 k, (.slice (some ⟨g, 0, none⟩) 0 0)] 24)) q1)
        have r1 := cell_keep hb3 (cell_keep (hx (.cells #[.int .i64 k, (.slice (some ⟨g, 0, none⟩) 0 0)] 24)) q2)
        have r2 : w3.cell? ⟨w2.heap.size, 0, none⟩ = some (.int .i64 k) := cell_keep hb3 (by simp)
        have r3 : w3.cell? ⟨w2.heap.size, 1, none⟩ = some (.slice (some ⟨g, 0, none⟩) 0 0) := cell_keep hb3 (by simp)
        have g0 : w3.frozen? ⟨w.heap.size, 0, none⟩ = false := by rw [hb3.frozen (p := ⟨w.heap.size, 0, none⟩) (show w.heap.size < _ by simp; omega), (hx _).frozen (p := ⟨w.heap.size, 0, none⟩) z1]; exact f1
        have g1 : w3.frozen? ⟨w.heap.size, 1, none⟩ = false := by rw [hb3.frozen (p := ⟨w.heap.size, 1, none⟩) (show w.heap.size < _ by simp; omega), (hx _).frozen (p := ⟨w.heap.size, 1, none⟩) z1]; exact f2
        replace hX := (hX.keep (hx (.cells #[.int .i64 k, (.slice (some ⟨g, 0, none⟩) 0 0)] 24))).keep hb3
        have z4 : w.heap.size < w3.heap.size := by omega
        have z5 : ¬ w2.heap.size = w.heap.size := by omega
        clear q1 q2 f1 f2 hb3 hXs
        rw [HI.out]
        clear hX
        go_wp2
        refine bodyPost_ret (v := .tuple #[.agg #[.int .i64 0, .slice none 0 0], .bool false]) (by simp [results, Tryd.results6, go_sem, r0, r1]) rfl ?_
        exact shE rfl (OwnX.nil _ _ _) HF ((b3.setCell (p := ⟨w.heap.size, 0, none⟩) (Nat.le_refl _) _).setCell (p := ⟨w.heap.size, 1, none⟩) (Nat.le_refl _) _)
      · have HF := Lib.hid (HY.out k HR.out hi)
        have HI := Lib.hid hi; clear hi
        go_wp2_with fail
        refine (iIsShift k _ l _ (hXs.keep (hx _)) HZ.out).mono ?_
        rintro e w3 ⟨rfl, hb3⟩
        have z3 : w2.heap.size + 1 ≤ w3.heap.size := by have := hb3.size; simp only [World.size_alloc] at this; omega
        have b3 : Below w.heap.size w w3 := (b2.trans ((hx _).mono b2.size)).trans (hb3.mono (Nat.le_trans b2.size (hx _).size))
        have r0 := cell_keep hb3 (cell_keep (hx (.cells #[.int .i64 k, (.slice (some ⟨g, 0, none⟩) 0 0)] 24)) q1)
        have r1 := cell_keep hb3 (cell_keep (hx (.cells #[.int .i64 k, (.slice (some ⟨g, 0, none⟩) 0 0)] 24)) q2)
        have r2 : w3.cell? ⟨w2.heap.size, 0, none⟩ = some (.int .i64 k) := cell_keep hb3 (by simp)
        have r3 : w3.cell? ⟨w2.heap.size, 1, none⟩ = some (.slice (some ⟨g, 0, none⟩) 0 0) := cell_keep hb3 (by simp)
        have g0 : w3.frozen? ⟨w.heap.size, 0, none⟩ = false := by rw [hb3.frozen (p := ⟨w.heap.size, 0, none⟩) (show w.heap.size < _ by simp; omega), (hx _).frozen (p := ⟨w.heap.size, 0, none⟩) z1]; exact f1
        have g1 : w3.frozen? ⟨w.heap.size, 1, none⟩ = false := by rw [hb3.frozen (p := ⟨w.heap.size, 1, none⟩) (show w.heap.size < _ by simp; omega), (hx _).frozen (p := ⟨w.heap.size, 1, none⟩) z1]; exact f2
        replace hX := (hX.keep (hx (.cells #[.int .i64 k, (.slice (some ⟨g, 0, none⟩) 0 0)] 24))).keep hb3
        have z4 : w.heap.size < w3.heap.size := by omega
        have z5 : ¬ w2.heap.size = w.heap.size := by omega
        clear q1 q2 f1 f2 hb3 hXs
        rw [HI.out]
        go_wp2
        refine bodyPost_ret (v := .tuple #[.agg #[.int .i64 k, (.slice (some ⟨g, 0, none⟩) 0 0)], .bool true]) (by simp [results, Tryd.results6, go_sem, r0, r1]) rfl ?_
        exact shE rfl (((hX.setBelow (a := ⟨w.heap.size, 0, none⟩) (Nat.lt_succ_self _) _).setBelow (a := ⟨w.heap.size, 1, none⟩) (Nat.lt_succ_self _) _).mono (Nat.le_succ _)) HF ((b3.setCell (p := ⟨w.heap.size, 0, none⟩) (Nat.le_refl _) _).setCell (p := ⟨w.heap.size, 1, none⟩) (Nat.le_refl _) _)
  · rw [if_neg hc0] at hX hXs
    cases ok with
    | false =>
      have HF := Lib.hid (HB.out k HR.out)
      clear HB HY HN HZ hX hXs
      go_wp2
      refine bodyPost_ret (v := .tuple #[.agg #[.int .i64 0, .slice none 0 0], .bool false]) (by simp [results, Tryd.results6, go_sem, z1, q1, q2]) rfl ?_
      exact shE rfl (OwnX.nil _ _ _) HF (((b2.setCell (p := ⟨w.heap.size, 0, none⟩) (Nat.le_refl _) _).setCell (p := ⟨w.heap.size, 1, none⟩) (Nat.le_refl _) _).alloc (by simp; omega) _)
    | true =>
      have hx : ∀ o, Below w2.heap.size w2 (w2.alloc o) := fun o => below_alloc w2 o
      cases hi : isShift k l
      · have HF := Lib.hid (HN.out k HR.out hi)
        have HI := Lib.hid hi; clear hi
        go_wp2_with fail
        refine (iIsShift k _ l _ (hXs.keep (hx _)) HZ.out).mono ?_
        rintro e w3 ⟨rfl, hb3⟩
        have z3 : w2.heap.size + 1 ≤ w3.heap.size := by have := hb3.size; simp only [World.size_alloc] at this; omega
        have b3 : Below w.heap.size w w3 := (b2.trans ((hx _).mono b2.size)).trans (hb3.mono (Nat.le_trans b2.size (hx _).size))
        have r0 := cell_keep hb3 (cell_keep (hx (.cells #[.int .i64 k, (.slice (some ⟨g, 1, none⟩) n cap)] 24)) q1)
        have r1 := cell_keep hb3 (cell_keep (hx (.cells #[.int .i64 k, (.slice (some ⟨g, 1, none⟩) n cap)] 24)) q2)
        have r2 : w3.cell? ⟨w2.heap.size, 0, none⟩ = some (.int .i64 k) := cell_keep hb3 (by simp)
        have r3 : w3.cell? ⟨w2.heap.size, 1, none⟩ = some (.slice (some ⟨g, 1, none⟩) n cap) := cell_keep hb3 (by simp)
        have g0 : w3.frozen? ⟨w.heap.size, 0, none⟩ = false := by rw [hb3.frozen (p := ⟨w.heap.size, 0, none⟩) (show w.heap.size < _ by simp; omega), (hx _).frozen (p := ⟨w.heap.size, 0, none⟩) z1]; exact f1
        have g1 : w3.frozen? ⟨w.heap.size, 1, none⟩ = false := by rw [hb3.frozen (p := ⟨w.heap.size, 1, none⟩) (show w.heap.size < _ by simp; omega), (hx _).frozen (p := ⟨w.heap.size, 1, none⟩) z1]; exact f2
        replace hX := (hX.keep (hx (.cells #[.int .i64 k, (.slice (some ⟨g, 1, none⟩) n cap)] 24))).keep hb3
        have z4 : w.heap.size < w3.heap.size := by omega
        have z5 : ¬ w2.heap.size = w.heap.size := by omega
        clear q1 q2 f1 f2 hb3 hXs
        rw [HI.out]
        clear hX
        go_wp2
        refine bodyPost_ret (v := .tuple #[.agg #[.int .i64 0, .slice none 0 0], .bool false]) (by simp [results, Tryd.results6, go_sem, r0, r1]) rfl ?_
        exact shE rfl (OwnX.nil _ _ _) HF ((b3.setCell (p := ⟨w.heap.size, 0, none⟩) (Nat.le_refl _) _).setCell (p := ⟨w.heap.size, 1, none⟩) (Nat.le_refl _) _)
      · have HF := Lib.hid (HY.out k HR.out hi)
        have HI := Lib.hid hi; clear hi
        go_wp2_with fail
        refine (iIsShift k _ l _ (hXs.keep (hx _)) HZ.out).mono ?_
        rintro e w3 ⟨rfl, hb3⟩
        have z3 : w2.heap.size + 1 ≤ w3.heap.size := by have := hb3.size; simp only [World.size_alloc] at this; omega
        have b3 : Below w.heap.size w w3 := (b2.trans ((hx _).mono b2.size)).trans (hb3.mono (Nat.le_trans b2.size (hx _).size))
        have r0 := cell_keep hb3 (cell_keep (hx (.cells #[.int .i64 k, (.slice (some ⟨g, 1, none⟩) n cap)] 24)) q1)
        have r1 := cell_keep hb3 (cell_keep (hx (.cells #[.int .i64 k, (.slice (some ⟨g, 1, none⟩) n cap)] 24)) q2)
        have r2 : w3.cell? ⟨w2.heap.size, 0, none⟩ = some (.int .i64 k) := cell_keep hb3 (by simp)
        have r3 : w3.cell? ⟨w2.heap.size, 1, none⟩ = some (.slice (some ⟨g, 1, none⟩) n cap) := cell_keep hb3 (by simp)
        have g0 : w3.frozen? ⟨w.heap.size, 0, none⟩ = false := by rw [hb3.frozen (p := ⟨w.heap.size, 0, none⟩) (show w.heap.size < _ by simp; omega), (hx _).frozen (p := ⟨w.heap.size, 0, none⟩) z1]; exact f1
        have g1 : w3.frozen? ⟨w.heap.size, 1, none⟩ = false := by rw [hb3.frozen (p := ⟨w.heap.size, 1, none⟩) (show w.heap.size < _ by simp; omega), (hx _).frozen (p := ⟨w.heap.size, 1, none⟩) z1]; exact f2
        replace hX := (hX.keep (hx (.cells #[.int .i64 k, (.slice (some ⟨g, 1, none⟩) n cap)] 24))).keep hb3
        have z4 : w.heap.size < w3.heap.size := by omega
        have z5 : ¬ w2.heap.size = w.heap.size := by omega
        clear q1 q2 f1 f2 hb3 hXs
        rw [HI.out]
        go_wp2
        refine bodyPost_ret (v := .tuple #[.agg #[.int .i64 k, (.slice (some ⟨g, 1, none⟩) n cap)], .bool true]) (by simp [results, Tryd.results6, go_sem, r0, r1]) rfl ?_
        exact shE rfl (((hX.setBelow (a := ⟨w.heap.size, 0, none⟩) (Nat.lt_succ_self _) _).setBelow (a := ⟨w.heap.size, 1, none⟩) (Nat.lt_succ_self _) _).mono (Nat.le_succ _)) HF ((b3.setCell (p := ⟨w.heap.size, 0, none⟩) (Nat.le_refl _) _).setCell (p := ⟨w.heap.size, 1, none⟩) (Nat.le_refl _) _)
set_option maxRecDepth 10000 in
set_option maxHeartbeats 400000 in
theorem sParseShift (s : ByteArray) (w : World) (hs : s.size ≤ 1048576) :
    Calls Tryd.prog 5 #[.string s] w (ShE s w) := by
  have hb0 := below_alloc w (.cells #[.int .i64 0, .slice none 0 0] 24)
  have z0 : (w.alloc (.cells #[.int .i64 0, .slice none 0 0] 24)).heap.size = w.heap.size + 1 := by simp
  have hSp : Hid (Calls Tryd.prog 15 #[.string s, .int .u8 32] (w.alloc (.cells #[.int .i64 0, .slice none 0 0] 24)) _) := Lib.hid (sSplitByte s 32 (w.alloc (.cells #[.int .i64 0, .slice none 0 0] 24)) hs)
  have hlen := splL_small s 32 hs
  have HP : ∀ x ∈ splL s 32, x.size ≤ 1048576 := fun x hx => Nat.le_trans (part_size hx) hs
  obtain ⟨p, l, hL⟩ := splL_cons s 32
  rw [hL] at hSp HP hlen
  have hps := HP p (List.mem_cons_self ..)
  have HZ : Hid (∀ x ∈ l, x.size ≤ 1048576) := Lib.hid fun x hx => HP x (List.mem_cons_of_mem _ hx)
  have HB : Hid (∀ n, Rd (-999999999999) 999999999999 p n false → ShR s 0 [] false) := Lib.hid fun n h => shR_bad hL (by omega) (by omega) h
  have HY : Hid (∀ n, Rd (-999999999999) 999999999999 p n true → isShift n l = true → ShR s n l true) := Lib.hid fun n h => shR_yes hL h
  have HN : Hid (∀ n, Rd (-999999999999) 999999999999 p n true → isShift n l = false → ShR s 0 [] false) := Lib.hid fun n h => shR_no hL (by omega) (by omega) h
  rw [List.length_cons] at hlen
  clear hL HP
  go_enter Tryd.func5, Tryd.ntmps5
  go_wp2_with fail
  refine hSp.out.mono ?_
  rintro e w1 ⟨v1, rfl, (ho1 : OwnS _ _ _ _ _), hb1⟩
  obtain ⟨g, cap, rfl, c1, hX, hlc, hcm⟩ := own_tail ho1
  have b1 : Below w.heap.size w w1 := hb0.trans (hb1.mono (by omega))
  have d1 : w1.cell? ⟨w.heap.size, 0, none⟩ = some (.int .i64 0) := cell_keep hb1 (by simp)
  have d2 : w1.cell? ⟨w.heap.size, 1, none⟩ = some (.slice none 0 0) := cell_keep hb1 (by simp)
  have hXs := hX.strs
  clear hSp ho1 hX
  go_wp2_with fail
  refine (sParseInt p _ hps).mono ?_
  rintro e w2 ⟨k, ok, rfl, HR, hb2⟩
  have b2 : Below w.heap.size w w2 := b1.trans (hb2.mono b1.size)
  have f1 : w2.frozen? ⟨w.heap.size, 0, none⟩ = false := by
    rw [hb2.frozen (p := ⟨w.heap.size, 0, none⟩) (show w.heap.size < w1.heap.size by have := hb1.size; omega), hb1.frozen (p := ⟨w.heap.size, 0, none⟩) (show w.heap.size < _ by omega)]; simp
  have f2 : w2.frozen? ⟨w.heap.size, 1, none⟩ = false := by
    rw [hb2.frozen (p := ⟨w.heap.size, 1, none⟩) (show w.heap.size < w1.heap.size by have := hb1.size; omega), hb1.frozen (p := ⟨w.heap.size, 1, none⟩) (show w.heap.size < _ by omega)]; simp
  have z1 : w.heap.size < w2.heap.size := by have := hb1.size; have := hb2.size; omega
  have q1 := cell_keep hb2 d1
  have q2 := cell_keep hb2 d2
  replace hXs := hXs.keep hb2
  clear d1 d2 hb1 hb0 b1 hb2 c1
  obtain ⟨n, hn⟩ : ∃ n, l.length = n := ⟨_, rfl⟩
  rw [hn] at hlen hlc hXs ⊢
  have HLN := Lib.hid hn; clear hn
  have hE := Own.empty 9 w2
  have hEb := below_alloc w2 (.cells #[] 9)
  by_cases hc0 : cap = 0
  · subst hc0
    rw [if_pos rfl] at hXs
    obtain rfl : n = 0 := by omega
    have hXe := hXs.keep hEb
    go_wp2_with (at_builtin; refine appL 22 9 16 (.string ByteArray.empty) Tryd.underlying22 Tryd.infoStr rfl hE hXe (strs_one l) ?k1 ?k2 (by simp) rfl _ _ rfl rfl rfl ?_)
    case k1 => rw [strs_length, HLN.out]; unfold maxLen; show 0 + 0 ≤ _; omega
    case k2 => rw [strs_length, HLN.out]; show (0 + 0) * 16 ≤ _; omega
    intro va wa hA hgA
    obtain ⟨aa, ca, rfl⟩ := hA.form (show (strs l).length = 0 by rw [strs_length, HLN.out])
    have hba : Below w2.heap.size w2 wa := hEb.trans (hE.below hgA (Nat.le_refl _) hEb.size)
    have ba := b2.trans (hba.mono b2.size)
    have za : w.heap.size < wa.heap.size := Nat.lt_of_lt_of_le z1 hba.size
    replace q1 := cell_keep hba q1
    replace q2 := cell_keep hba q2
    replace f1 : wa.frozen? ⟨w.heap.size, 0, none⟩ = false := by rw [hba.frozen (p := ⟨w.heap.size, 0, none⟩) z1]; exact f1
    replace f2 : wa.frozen? ⟨w.heap.size, 1, none⟩ = false := by rw [hba.frozen (p := ⟨w.heap.size, 1, none⟩) z1]; exact f2
    have zA := hba.size
    clear hE hEb hXs hXe hgA hba b2
    cases ok with
    | false =>
      have HF := Lib.hid (HB.out k HR.out)
      clear HB HY HN HZ hA
      go_wp2
      refine bodyPost_ret (v := .tuple #[.agg #[.int .i64 0, .slice none 0 0], .bool false]) (by simp [results, Tryd.results5, go_sem, za, q1, q2]) rfl ?_
      exact shE rfl (OwnX.nil _ _ _) HF (((ba.setCell (p := ⟨w.heap.size, 0, none⟩) (Nat.le_refl _) _).setCell (p := ⟨w.heap.size, 1, none⟩) (Nat.le_refl _) _).alloc (by simp; omega) _)
    | true =>
      have hx : ∀ o, Below wa.heap.size wa (wa.alloc o) := fun o => below_alloc wa o
      have hXs := hA.row
      cases hi : isShift k l
      · have HF := Lib.hid (HN.out k HR.out hi)
        have HI := Lib.hid hi; clear hi
        go_wp2_with fail
        refine (sIsShift k _ l _ (Strs.keep hXs (hx _)) HZ.out).mono ?_
        rintro e w3 ⟨rfl, hb3⟩
        have z3 : wa.heap.size + 1 ≤ w3.heap.size := by have := hb3.size; simp only [World.size_alloc] at this; omega
        have b3 : Below w.heap.size w w3 := (ba.trans ((hx _).mono ba.size)).trans (hb3.mono (Nat.le_trans ba.size (hx _).size))
        have r0 := cell_keep hb3 (cell_keep (hx (.cells #[.int .i64 k, .slice aa 0 ca] 24)) q1)
        have r1 := cell_keep hb3 (cell_keep (hx (.cells #[.int .i64 k, .slice aa 0 ca] 24)) q2)
        have r2 : w3.cell? ⟨wa.heap.size, 0, none⟩ = some (.int .i64 k) := cell_keep hb3 (by simp)
        have r3 : w3.cell? ⟨wa.heap.size, 1, none⟩ = some (.slice aa 0 ca) := cell_keep hb3 (by simp)
        have g0 : w3.frozen? ⟨w.heap.size, 0, none⟩ = false := by rw [hb3.frozen (p := ⟨w.heap.size, 0, none⟩) (show w.heap.size < _ by simp; omega), (hx _).frozen (p := ⟨w.heap.size, 0, none⟩) za]; exact f1
        have g1 : w3.frozen? ⟨w.heap.size, 1, none⟩ = false := by rw [hb3.frozen (p := ⟨w.heap.size, 1, none⟩) (show w.heap.size < _ by simp; omega), (hx _).frozen (p := ⟨w.heap.size, 1, none⟩) za]; exact f2
        replace hA := (hA.keep (hx (.cells #[.int .i64 k, .slice aa 0 ca] 24))).keep hb3
        have z5 : ¬ wa.heap.size = w.heap.size := by omega
        clear q1 q2 f1 f2 hb3 hXs
        rw [HI.out]
        clear hA
        go_wp2
        refine bodyPost_ret (v := .tuple #[.agg #[.int .i64 0, .slice none 0 0], .bool false]) (by simp [results, Tryd.results5, go_sem, r0, r1]) rfl ?_
        exact shE rfl (OwnX.nil _ _ _) HF ((b3.setCell (p := ⟨w.heap.size, 0, none⟩) (Nat.le_refl _) _).setCell (p := ⟨w.heap.size, 1, none⟩) (Nat.le_refl _) _)
      · have HF := Lib.hid (HY.out k HR.out hi)
        have HI := Lib.hid hi; clear hi
        go_wp2_with fail
        refine (sIsShift k _ l _ (Strs.keep hXs (hx _)) HZ.out).mono ?_
        rintro e w3 ⟨rfl, hb3⟩
        have z3 : wa.heap.size + 1 ≤ w3.heap.size := by have := hb3.size; simp only [World.size_alloc] at this; omega
        have b3 : Below w.heap.size w w3 := (ba.trans ((hx _).mono ba.size)).trans (hb3.mono (Nat.le_trans ba.size (hx _).size))
        have r0 := cell_keep hb3 (cell_keep (hx (.cells #[.int .i64 k, .slice aa 0 ca] 24)) q1)
        have r1 := cell_keep hb3 (cell_keep (hx (.cells #[.int .i64 k, .slice aa 0 ca] 24)) q2)
        have r2 : w3.cell? ⟨wa.heap.size, 0, none⟩ = some (.int .i64 k) := cell_keep hb3 (by simp)
        have r3 : w3.cell? ⟨wa.heap.size, 1, none⟩ = some (.slice aa 0 ca) := cell_keep hb3 (by simp)
        have g0 : w3.frozen? ⟨w.heap.size, 0, none⟩ = false := by rw [hb3.frozen (p := ⟨w.heap.size, 0, none⟩) (show w.heap.size < _ by simp; omega), (hx _).frozen (p := ⟨w.heap.size, 0, none⟩) za]; exact f1
        have g1 : w3.frozen? ⟨w.heap.size, 1, none⟩ = false := by rw [hb3.frozen (p := ⟨w.heap.size, 1, none⟩) (show w.heap.size < _ by simp; omega), (hx _).frozen (p := ⟨w.heap.size, 1, none⟩) za]; exact f2
        replace hA := (hA.keep (hx (.cells #[.int .i64 k, .slice aa 0 ca] 24))).keep hb3
        have z5 : ¬ wa.heap.size = w.heap.size := by omega
        clear q1 q2 f1 f2 hb3 hXs
        rw [HI.out]
        go_wp2
        refine bodyPost_ret (v := .tuple #[.agg #[.int .i64 k, .slice aa 0 ca], .bool true]) (by simp [results, Tryd.results5, go_sem, r0, r1]) rfl ?_
        exact shE rfl (.inl (((hA.setCell_below (a := ⟨w.heap.size, 0, none⟩) z1 _).setCell_below (a := ⟨w.heap.size, 1, none⟩) z1 _).mono (Nat.le_of_lt z1))) HF ((b3.setCell (p := ⟨w.heap.size, 0, none⟩) (Nat.le_refl _) _).setCell (p := ⟨w.heap.size, 1, none⟩) (Nat.le_refl _) _)
  · rw [if_neg hc0] at hXs
    have hXe := hXs.keep hEb
    go_wp2_with (at_builtin; refine appL 22 9 16 (.string ByteArray.empty) Tryd.underlying22 Tryd.infoStr rfl hE hXe (strs_one l) ?k1 ?k2 (by simp) rfl _ _ rfl rfl rfl ?_)
    case k1 => rw [strs_length, HLN.out]; unfold maxLen; show 0 + n ≤ _; omega
    case k2 => rw [strs_length, HLN.out]; show (0 + n) * 16 ≤ _; omega
    intro va wa hA hgA
    obtain ⟨aa, ca, rfl⟩ := hA.form (show (strs l).length = n by rw [strs_length, HLN.out])
    have hba : Below w2.heap.size w2 wa := hEb.trans (hE.below hgA (Nat.le_refl _) hEb.size)
    have ba := b2.trans (hba.mono b2.size)
    have za : w.heap.size < wa.heap.size := Nat.lt_of_lt_of_le z1 hba.size
    replace q1 := cell_keep hba q1
    replace q2 := cell_keep hba q2
    replace f1 : wa.frozen? ⟨w.heap.size, 0, none⟩ = false := by rw [hba.frozen (p := ⟨w.heap.size, 0, none⟩) z1]; exact f1
    replace f2 : wa.frozen? ⟨w.heap.size, 1, none⟩ = false := by rw [hba.frozen (p := ⟨w.heap.size, 1, none⟩) z1]; exact f2
    have zA := hba.size
    clear hE hEb hXs hXe hgA hba b2
    cases ok with
    | false =>
      have HF := Lib.hid (HB.out k HR.out)
      clear HB HY HN HZ hA
      go_wp2
      refine bodyPost_ret (v := .tuple #[.agg #[.int .i64 0, .slice none 0 0], .bool false]) (by simp [results, Tryd.results5, go_sem, za, q1, q2]) rfl ?_
      exact shE rfl (OwnX.nil _ _ _) HF (((ba.setCell (p := ⟨w.heap.size, 0, none⟩) (Nat.le_refl _) _).setCell (p := ⟨w.heap.size, 1, none⟩) (Nat.le_refl _) _).alloc (by simp; omega) _)
    | true =>
      have hx : ∀ o, Below wa.heap.size wa (wa.alloc o) := fun o => below_alloc wa o
      have hXs := hA.row
      cases hi : isShift k l
      · have HF := Lib.hid (HN.out k HR.out hi)
        have HI := Lib.hid hi; clear hi
        go_wp2_with fail
        refine (sIsShift k _ l _ (Strs.keep hXs (hx _)) HZ.out).mono ?_
        rintro e w3 ⟨rfl, hb3⟩
        have z3 : wa.heap.size + 1 ≤ w3.heap.size := by have := hb3.size; simp only [World.size_alloc] at this; omega
        have b3 : Below w.heap.size w w3 := (ba.trans ((hx _).mono ba.size)).trans (hb3.mono (Nat.le_trans ba.size (hx _).size))
        have r0 := cell_keep hb3 (cell_keep (hx (.cells #[.int .i64 k, .slice aa n ca] 24)) q1)
        have r1 := cell_keep hb3 (cell_keep (hx (.cells #[.int .i64 k, .slice aa n ca] 24)) q2)
        have r2 : w3.cell? ⟨wa.heap.size, 0, none⟩ = some (.int .i64 k) := cell_keep hb3 (by simp)
        have r3 : w3.cell? ⟨wa.heap.size, 1, none⟩ = some (.slice aa n ca) := cell_keep hb3 (by simp)
        have g0 : w3.frozen? ⟨w.heap.size, 0, none⟩ = false := by rw [hb3.frozen (p := ⟨w.heap.size, 0, none⟩) (show w.heap.size < _ by simp; omega), (hx _).frozen (p := ⟨w.heap.size, 0, none⟩) za]; exact f1
        have g1 : w3.frozen? ⟨w.heap.size, 1, none⟩ = false := by rw [hb3.frozen (p := ⟨w.heap.size, 1, none⟩) (show w.heap.size < _ by simp; omega), (hx _).frozen (p := ⟨w.heap.size, 1, none⟩) za]; exact f2
        replace hA := (hA.keep (hx (.cells #[.int .i64 k, .slice aa n ca] 24))).keep hb3
        have z5 : ¬ wa.heap.size = w.heap.size := by omega
        clear q1 q2 f1 f2 hb3 hXs
        rw [HI.out]
        clear hA
        go_wp2
        refine bodyPost_ret (v := .tuple #[.agg #[.int .i64 0, .slice none 0 0], .bool false]) (by simp [results, Tryd.results5, go_sem, r0, r1]) rfl ?_
        exact shE rfl (OwnX.nil _ _ _) HF ((b3.setCell (p := ⟨w.heap.size, 0, none⟩) (Nat.le_refl _) _).setCell (p := ⟨w.heap.size, 1, none⟩) (Nat.le_refl _) _)
      · have HF := Lib.hid (HY.out k HR.out hi)
        have HI := Lib.hid hi; clear hi
        go_wp2_with fail
        refine (sIsShift k _ l _ (Strs.keep hXs (hx _)) HZ.out).mono ?_
        rintro e w3 ⟨rfl, hb3⟩
        have z3 : wa.heap.size + 1 ≤ w3.heap.size := by have := hb3.size; simp only [World.size_alloc] at this; omega
        have b3 : Below w.heap.size w w3 := (ba.trans ((hx _).mono ba.size)).trans (hb3.mono (Nat.le_trans ba.size (hx _).size))
        have r0 := cell_keep hb3 (cell_keep (hx (.cells #[.int .i64 k, .slice aa n ca] 24)) q1)
        have r1 := cell_keep hb3 (cell_keep (hx (.cells #[.int .i64 k, .slice aa n ca] 24)) q2)
        have r2 : w3.cell? ⟨wa.heap.size, 0, none⟩ = some (.int .i64 k) := cell_keep hb3 (by simp)
        have r3 : w3.cell? ⟨wa.heap.size, 1, none⟩ = some (.slice aa n ca) := cell_keep hb3 (by simp)
        have g0 : w3.frozen? ⟨w.heap.size, 0, none⟩ = false := by rw [hb3.frozen (p := ⟨w.heap.size, 0, none⟩) (show w.heap.size < _ by simp; omega), (hx _).frozen (p := ⟨w.heap.size, 0, none⟩) za]; exact f1
        have g1 : w3.frozen? ⟨w.heap.size, 1, none⟩ = false := by rw [hb3.frozen (p := ⟨w.heap.size, 1, none⟩) (show w.heap.size < _ by simp; omega), (hx _).frozen (p := ⟨w.heap.size, 1, none⟩) za]; exact f2
        replace hA := (hA.keep (hx (.cells #[.int .i64 k, .slice aa n ca] 24))).keep hb3
        have z5 : ¬ wa.heap.size = w.heap.size := by omega
        clear q1 q2 f1 f2 hb3 hXs
        rw [HI.out]
        go_wp2
        refine bodyPost_ret (v := .tuple #[.agg #[.int .i64 k, .slice aa n ca], .bool true]) (by simp [results, Tryd.results5, go_sem, r0, r1]) rfl ?_
        exact shE rfl (.inl (((hA.setCell_below (a := ⟨w.heap.size, 0, none⟩) z1 _).setCell_below (a := ⟨w.heap.size, 1, none⟩) z1 _).mono (Nat.le_of_lt z1))) HF ((b3.setCell (p := ⟨w.heap.size, 0, none⟩) (Nat.le_refl _) _).setCell (p := ⟨w.heap.size, 1, none⟩) (Nat.le_refl _) _)
end Go.Proofs.YtloicjojhfpihaaDoor
