/- Contracts and plain facts that the law needs, from several texts. No statement is proved here. -/
import Derived.Test.YtkohadoicebojaaGreatDoorMgA
import Derived.Test.YtkohadoicebojaaGreatDoorMgB
import Derived.Test.YtkohadoicebojaaGreatDoorAvW
import Derived.Deep.AppendLies
import Derived.Deep.RegionHeld3
namespace Go.Proofs.YtkohadoicebojaaGreatDoor
open Go.RowKit Go.Deep
def slits : List ByteArray := [⟨#[50, 32, 98, 98]⟩, ⟨#[50, 32, 97, 97, 32, 98, 98]⟩, ⟨#[50, 32, 97, 97, 98]⟩, ⟨#[51, 32, 97, 98, 32, 98, 99, 32, 99, 97]⟩, ⟨#[50]⟩, ⟨#[49]⟩, ⟨#[51, 32, 97, 97, 32, 98, 98, 32, 99, 99]⟩, ⟨#[50, 32, 97, 98, 97, 32, 98, 97, 98]⟩, ⟨#[50, 32, 97, 98]⟩, ⟨#[50, 32, 97, 97, 97, 32, 98, 98]⟩, ⟨#[51, 32, 97, 99, 32, 98, 98]⟩]
theorem slit_small : ∀ s ∈ slits, s.size ≤ 100 := by
  intro s hs
  simp only [slits, List.mem_cons, List.not_mem_nil, or_false] at hs
  rcases hs with rfl | rfl | rfl | rfl | rfl | rfl | rfl | rfl | rfl | rfl | rfl <;> decide
/-- A small shift. -/
def ShOk (k z : Nat) (c : Int) (L : List ByteArray) : Prop := 0 ≤ c ∧ c ≤ 4 ∧ L.length ≤ k ∧ ∀ x ∈ L, x.size ≤ z
theorem isShift_ok {c : Int} {L : List ByteArray} (h : isShift c L = true) : ShOk 8 3 c L := by
  have hk := isShift_num h
  unfold isShift at h
  simp only [Bool.and_eq_true, decide_eq_true_eq, List.all_eq_true, List.mem_range] at h
  refine ⟨by omega, by omega, h.2.1, fun x hx => ?_⟩
  obtain ⟨i, hi, rfl⟩ := List.getElem_of_mem hx
  have h1 := h.2.2 i hi
  unfold shAt at h1
  simp only [Bool.and_eq_true] at h1
  have e : L.getD i ByteArray.empty = L[i] := by rw [List.getD_eq_getElem?_getD, List.getElem?_eq_getElem hi]; rfl
  rw [e] at h1
  have := inR_iff.1 h1.2.1
  omega
theorem shR_ok {s : ByteArray} {c : Int} {L : List ByteArray} {b : Bool} (h : ShR s c L b) : ShOk 8 3 c L := by
  rcases h with ⟨_, _, h⟩ | ⟨_, rfl, rfl, _⟩
  · exact isShift_ok h
  · exact ⟨by omega, by omega, by simp, fun x hx => by cases hx⟩
/-- The two cells of a shift in block b. -/
structure Sh (b : Nat) (w : World) (c : Int) (v : Value) : Prop where
  c0 : w.cell? ⟨b, 0, none⟩ = some (.int .i64 c)
  c1 : w.cell? ⟨b, 1, none⟩ = some v
  f0 : w.frozen? ⟨b, 0, none⟩ = false
  f1 : w.frozen? ⟨b, 1, none⟩ = false
  lt : b < w.heap.size
theorem Sh.grown {b : Nat} {w w' : World} {c : Int} {v : Value} {row : Option Nat} (h : Sh b w c v) (hg : w.grownBy w' row) (hne : some b ≠ row) : Sh b w' c v :=
  ⟨hg.cell h.c0 hne, hg.cell h.c1 hne, (hg.frozen_far ⟨b, 0, none⟩ h.lt hne).trans h.f0, (hg.frozen_far ⟨b, 1, none⟩ h.lt hne).trans h.f1, Nat.lt_of_lt_of_le h.lt hg.size⟩
theorem Sh.below {b B : Nat} {w w' : World} {c : Int} {v : Value} (h : Sh b w c v) (hb : Below B w w') (hB : b < B) : Sh b w' c v :=
  ⟨by rw [World.cell?_of_block (hb.block b hB)]; exact h.c0, by rw [World.cell?_of_block (hb.block b hB)]; exact h.c1, (hb.frozen (p := ⟨b, 0, none⟩) hB).trans h.f0, (hb.frozen (p := ⟨b, 1, none⟩) hB).trans h.f1, Nat.lt_of_lt_of_le h.lt hb.size⟩
theorem cell_other (w : World) {a b : Addr} (h : a ≠ b) (v : Value) : (w.setCell a v).cell? b = w.cell? b := by apply World.cell?_setCell_other; exact h
theorem Sh.set1 {b : Nat} {w : World} {c : Int} {v : Value} (h : Sh b w c v) (u : Value) : Sh b (w.setCell ⟨b, 1, none⟩ u) c u := by
  have h0 := h.c0
  have h1 := h.c1
  exact ⟨by rw [cell_other w (show (⟨b, 1, none⟩ : Addr) ≠ ⟨b, 0, none⟩ by simp)]; exact h0, World.cell?_setCell_same' _ _ _ (by simp [h1]), by simp [h.f0], by simp [h.f1], by simpa using h.lt⟩
theorem Sh.set0 {b : Nat} {w : World} {c : Int} {v : Value} (h : Sh b w c v) (d : Int) : Sh b (w.setCell ⟨b, 0, none⟩ (.int .i64 d)) d v := by
  have h0 := h.c0
  have h1 := h.c1
  exact ⟨World.cell?_setCell_same' _ _ _ (by simp [h0]), by rw [cell_other w (show (⟨b, 0, none⟩ : Addr) ≠ ⟨b, 1, none⟩ by simp)]; exact h1, by simp [h.f0], by simp [h.f1], by simpa using h.lt⟩
theorem Sh.new (w : World) (te : TypeId) (c : Int) (v : Value) : Sh w.heap.size (w.alloc (.cells #[.int .i64 c, v] te)) c v :=
  ⟨by simp, by simp, by simp, by simp, by simp⟩
theorem grow_setA (w : World) (a : Addr) (u : Value) : w.grownBy (w.setCell a u) (some a.block) :=
  ⟨rfl, rfl, rfl, by simp, fun j _ hne => blk_setCell_other w _ u j (fun e => hne (by rw [e]))⟩
theorem Own.setOut {e : TypeId} {B : Nat} {w : World} {v : Value} {xs : List Value} (h : Own e B w v xs) {a : Addr} (hne : ∀ k, v.ownBlock = some k → k ≠ a.block) (u : Value) : Own e B (w.setCell a u) v xs := by
  refine h.grown (grow_setA w a u) ?_
  cases e2 : v.ownBlock with
  | none => exact .inl rfl
  | some k => exact .inr fun e3 => hne k e2 (Option.some.inj e3)
theorem Cur.keepB {w0 w w' : World} {N n B : Nat} {v : Value} (h : Cur w0 N v n w) (hb : Below B w w') (hB : N < B) : Cur w0 N v n w' := by
  obtain ⟨h1, h2, i, k, h3, h4⟩ := h
  exact ⟨h1, h2.trans (hb.mono (by omega)), i, k, h3, h4.of_block (hb.block N hB)⟩
theorem growBB {w w1 w2 : World} {b : Option Nat} (h : w.grownBy w1 b) {B : Nat} (hb : Below B w1 w2) (hB : w.heap.size ≤ B) : w.grownBy w2 b :=
  ⟨hb.os.trans h.os, hb.tape.trans h.tape, hb.output.trans h.output, Nat.le_trans h.size hb.size, fun k hk hne => (hb.block k (by omega)).trans (h.block k hk hne)⟩
set_option maxRecDepth 10000 in
set_option maxHeartbeats 1600000 in
theorem l3Draw (w0 : World) (N n : Nat) (v : Value) (l : List UInt8) (w : World) (hv : BytesV w0 v l) (hl : l.length = n) (hC : Cur w0 N v n w) :
    Calls Tryz.prog 80 #[.pointer (some ⟨N, 0, none⟩)] w fun e w' => ∃ c v' L, e = .returned (.agg #[.int .i64 c, v']) ∧ ShOk 8 3 c L ∧ Own 9 w.heap.size w' v' (strs L) ∧ Cur w0 N v n w' ∧ w.grownBy w' (some N) := by
  have hlt0 := hC.lt
  have hC0 := hC.keep (below_alloc w (.cells #[.int .i64 0, .slice none 0 0] 41))
  have hg0 := growA w (.cells #[.int .i64 0, .slice none 0 0] 41) (some N)
  have hS0 := Sh.new w 41 0 (.slice none 0 0)
  have hbN : some w.heap.size ≠ some N := fun e => by have := Option.some.inj e; omega
  go_enter Tryz.func80, Tryz.ntmps80
  go_wp2_with fail
  refine (l1Once w0 N n v l _ hv hl hC0 3 (by omega) (by omega)).mono ?_
  rintro e w1 ⟨o, rfl, hC1, hg1⟩
  have hS1 := hS0.grown hg1 hbN
  have hw1 := hg0.trans hg1
  clear hC0 hg0 hS0 hg1
  have z1 := hS1.lt
  cases ho : decide (o = 0)
  · go_wp2_with fail
    refine (pickI w0 N n v l w1 hv hl hC1 [1, 1, 2, 0] 3 4 rfl (by omega) (by omega) 4).mono ?_
    rintro e w2 ⟨y, rfl, hy, hC2, hg2⟩
    have hS2 := hS1.grown hg2 hbN
    have hw2 := hw1.trans hg2
    obtain ⟨K, hK, hK1, hK3⟩ : ∃ K : Nat, 1 + y = (K : Int) ∧ 1 ≤ K ∧ K ≤ 3 := by
      simp only [List.mem_cons, List.not_mem_nil, or_false] at hy
      exact ⟨(1 + y).toNat, by omega, by omega, by omega⟩
    have z2 := hS2.lt
    clear hC1 hg2 hS1 hw1 hy z1
    obtain ⟨b5, hb5⟩ : ∃ b5, w2.heap.size = b5 := ⟨_, rfl⟩
    have hC3 : Cur w0 N v n (w2.alloc (.cells #[.int .i64 K, .slice none 0 0] 41)) := hC2.keep (below_alloc w2 _)
    have hw3 : w.grownBy (w2.alloc (.cells #[.int .i64 K, .slice none 0 0] 41)) (some N) := hw2.trans (growA w2 _ (some N))
    have hT3 : Sh b5 (w2.alloc (.cells #[.int .i64 K, .slice none 0 0] 41)) K (.slice none 0 0) := by rw [← hb5]; exact Sh.new w2 41 K (.slice none 0 0)
    have hS3 : Sh w.heap.size (w2.alloc (.cells #[.int .i64 K, .slice none 0 0] 41)) 0 (.slice none 0 0) := hS2.below (below_alloc w2 _) z2
    have hsz3 : (w2.alloc (.cells #[.int .i64 K, .slice none 0 0] 41)).heap.size = b5 + 1 := by simp [hb5]
    clear hC2 hw2 hS2
    go_wp2_with fail
    try simp only [hK, hb5]
    refine (l1Below w0 N n v l (w2.alloc (.cells #[.int .i64 K, .slice none 0 0] 41)) hv hl hC3 5 (by omega) (by omega)).mono ?_
    rintro e w4 ⟨j0, rfl, hj0, hC4, hg4⟩
    have hw4 := hw3.trans hg4
    have hT4 := hT3.grown hg4 (fun e => by have := Option.some.inj e; omega)
    have hS4 := hS3.grown hg4 hbN
    clear hC3 hw3 hT3 hS3
    have hsz4 : b5 + 1 ≤ w4.heap.size := by have := hg4.size; omega
    clear hsz3 hg4 hK
    go_wp2
    go_loopw [6] (fun i wr => ∃ (j : Nat) (a : Option Addr) (m c : Nat) (L : List ByteArray), i = .int .i64 j ∧ Sh b5 wr K (.slice a m c) ∧ Own 9 (b5 + 1) wr (.slice a m c) (strs L) ∧ j + L.length ≤ 4 ∧ Hid (∀ x ∈ L, x.size ≤ 3) ∧ Sh w.heap.size wr 0 (.slice none 0 0) ∧ Cur w0 N v n wr ∧ w.grownBy wr (some N) ∧ b5 + 1 ≤ wr.heap.size) (fun i _ => (intOf i).toNat)
    case atStart => exact ⟨j0, none, 0, 0, [], rfl, hT4, Own.nil _ _ _, by simp; omega, Lib.hid (fun x hx => by cases hx), hS4, hC4, hw4, hsz4⟩
    case round =>
      clear hT4 hS4 hC4 hw4 hsz4
      obtain ⟨j, a, m, c, L, rfl, hT, hO, hjL, HX, hS, hCr, hgr, hsz⟩ := hrel
      by_cases hlt : 0 < j
      · obtain ⟨t0, t1, tf0, tf1, tl⟩ := hT
        have hd : Below wr.heap.size wr wr.drew := (Below.refl _ _).drew
        have hCd := hCr.keep hd
        have t0d : wr.drew.cell? ⟨b5, 0, none⟩ = some (.int .i64 K) := cell_keep hd t0
        have hba := below_alloc wr.drew (.cells (strs abc).toArray 9)
        have hCa := hCd.keep hba
        have t0a := cell_keep hba t0d
        have hD1 := Lib.hid (l2Draw w0 N n v l wr.drew hv hl hCd K 2 hK1 hK3 (by omega))
        have hD2 := Lib.hid (l2Draw w0 N n v l _ hv hl hCa K 2 hK1 hK3 (by omega))
        have hKI0 : (0 : Int) ≤ (K : Int) := by omega
        have hKI3 : (K : Int) ≤ 3 := by omega
        have hbN5 : some b5 ≠ some N := fun e => by have := Option.some.inj e; omega
        have hgd : wr.grownBy wr.drew (some N) := grow_drew wr 1 (some N)
        have hga : wr.grownBy (wr.drew.alloc (.cells (strs abc).toArray 9)) (some N) := hgd.trans (growA _ _ _)
        have hP1 : Hid (∀ w', Cur w0 N v n w' → Calls Tryz.prog 103 #[.pointer (some ⟨N, 0, none⟩), .slice (some ⟨w'.heap.size, 0, none⟩) K 3] (w'.alloc (.cells (strs abc).toArray 9)) fun e w'' => ∃ x, e = .returned (.string x) ∧ x ∈ abc ∧ Cur w0 N v n w'' ∧ w'.grownBy w'' (some N)) := Lib.hid fun w' h => pickS w0 N n v l w' hv hl h abc 9 3 K rfl hK1 hK3 (by omega) 3
        have hP2 : Hid (∀ w', Cur w0 N v n w' → (wr.drew.alloc (.cells (strs abc).toArray 9)).grownBy w' (some N) → Calls Tryz.prog 103 #[.pointer (some ⟨N, 0, none⟩), .slice (some ⟨wr.drew.heap.size, 0, none⟩) K 3] w' fun e w'' => ∃ x, e = .returned (.string x) ∧ x ∈ abc ∧ Cur w0 N v n w'' ∧ w'.grownBy w'' (some N)) := Lib.hid fun w' h hg => by
          have hlt := hCd.lt
          refine (l1Pick w0 N n v l w' hv hl h wr.drew.heap.size (by omega) (abc.take K) K (by rw [List.length_take]; show min K 3 = K; omega) hK1 (by omega) (fun j x hj => hg.cell (lit_cell wr.drew (strs abc) 9 ?_) (fun e => by have := Option.some.inj e; simp at this; omega)) 3).mono ?_
          · rw [strs_get?]
            rw [List.getElem?_take] at hj
            split at hj
            · rw [hj]; rfl
            · cases hj
          · rintro e w'' ⟨x, h1, h2, h3⟩
            exact ⟨x, h1, List.mem_of_mem_take h2, h3⟩
        have HAB : Hid (∀ x ∈ abc, x.size = 1) := Lib.hid fun x hx => abc_one hx
        clear hCd hCa hba
        go_wp2
        go_region_held3 (fun w' => w'.cell? ⟨b5, 0, none⟩ = some (.int .i64 K))
          (first | assumption | go_keep)
          (first
            | (go_at_call 111; refine hD1.out.mono ?_; rintro e w6 ⟨s6, rfl, hs6, hC6, hg6⟩; have t06 : w6.cell? ⟨b5, 0, none⟩ = some (.int .i64 K) := hg6.cell t0d hbN5; have hw6 := hgd.trans hg6; have hQ6 := Lib.hid (hP1.out w6 hC6))
            | (go_at_call 111; refine hD2.out.mono ?_; rintro e w6 ⟨s6, rfl, hs6, hC6, hg6⟩; have t06 : w6.cell? ⟨b5, 0, none⟩ = some (.int .i64 K) := hg6.cell t0a hbN5; have hw6 := hga.trans hg6; have hQ6 := Lib.hid (hP2.out w6 hC6 hg6))
            | (go_at_call 103; refine hQ6.out.mono ?_; rintro e w7 ⟨x7, rfl, hx7, hC7, hg7⟩; have hx8 := HAB.out x7 hx7; have hsx : s6.size + x7.size ≤ 100 := (by omega); have hadd : (Op.stringOp .add s6 x7).run Tryz.prog = (fun w => .ok (.string (s6 ++ x7)) w) := (by funext w; rw [run_string_add_if, if_neg (by omega)]); have t07 : w7.cell? ⟨b5, 0, none⟩ = some (.int .i64 K) := hg7.cell t06 hbN5; have hw7 := hw6.trans hg7))
        all_goals
          have hT7 := (Sh.mk t0 t1 tf0 tf1 tl).grown hw7 hbN5
          have hS7 := hS.grown hw7 hbN
          have hO7 := hO.grownN hw7 (by omega)
          have hg7w := hgr.trans hw7
          have hz7 : (s6 ++ x7).size ≤ 3 := by rw [ByteArray.size_append]; omega
          obtain ⟨X, hX⟩ : ∃ X, s6 ++ x7 = X := ⟨_, rfl⟩
          rw [hX] at hz7
          have hsz7 := hw7.size
          obtain ⟨u0, u1, uf0, uf1, ul⟩ := hT7
          have hpl := putS_len L X
          have HM : Hid (∀ x ∈ putS L X, x.size ≤ 3) := Lib.hid fun x hx => by
            rcases putS_mem hx with rfl | hx
            · exact hz7
            · exact HX.out x hx
          go_wp2_with fail
          try simp only [hX]
          refine (sPutA (b5 + 1) _ L X _ hO7 (by omega) (by omega)).mono ?_
          rintro e w8 ⟨v8, rfl, hO8, hb8⟩
          have hT8 := (Sh.mk u0 u1 uf0 uf1 ul).below hb8 (Nat.lt_succ_self _)
          have hS8 := hS7.below hb8 (by omega)
          have hC8 := hC7.keepB hb8 (by omega)
          have hg8 := growBB hg7w hb8 (by omega)
          have hsz8 := hb8.size
          obtain ⟨a8, c8, rfl⟩ := hO8.form rfl
          have hown8 := hO8.lt
          obtain ⟨k0, k1, kf0, kf1, kl⟩ := hT8
          go_wp2
          go_roundw
          case rel => exact ⟨j - 1, _, _, _, putS L X, by go_num, (Sh.mk k0 k1 kf0 kf1 kl).set1 _, hO8.setOut (a := ⟨b5, 1, none⟩) (fun k hk => by have := hown8 k hk; show k ≠ b5; omega) _, by omega, HM, hS8.grown (grow_setA _ ⟨b5, 1, none⟩ _) (fun e => by have := Option.some.inj e; simp at this; omega), hC8.set (a := ⟨b5, 1, none⟩) (show N < b5 by omega) _, growSet hg8 (a := ⟨b5, 1, none⟩) (show w.heap.size ≤ b5 by omega) _, by simp; omega⟩
          case measure => simp [intOf]; omega
      · obtain ⟨t0, t1, tf0, tf1, tl⟩ := hT
        obtain ⟨r0, r1, rf0, rf1, rl⟩ := hS
        have hOk : ShOk 8 3 K L := ⟨by omega, by omega, by omega, HX.out⟩
        go_wp2
        refine bodyPost_ret (v := .agg #[.int .i64 K, .slice a m c]) (by simp [results, Tryz.results80, go_sem, r0, r1]) rfl ⟨_, _, L, rfl, hOk, ?_, ?_, ?_⟩
        · exact ((hO.setCell_below (a := ⟨w.heap.size, 0, none⟩) (by show w.heap.size < b5 + 1; omega) _).setCell_below (a := ⟨w.heap.size, 1, none⟩) (by show w.heap.size < b5 + 1; omega) _).mono (by omega)
        · exact (hCr.set (a := ⟨w.heap.size, 0, none⟩) (show N < w.heap.size by omega) _).set (a := ⟨w.heap.size, 1, none⟩) (show N < w.heap.size by omega) _
        · exact growSet (growSet hgr (a := ⟨w.heap.size, 0, none⟩) (Nat.le_refl _) _) (a := ⟨w.heap.size, 1, none⟩) (Nat.le_refl _) _
  · have hP := Lib.hid (pickS w0 N n v l w1 hv hl hC1 slits 9 11 11 rfl (by omega) (by omega) (by omega) 11)
    go_wp2_with fail
    refine hP.out.mono ?_
    rintro e w2 ⟨s, rfl, hs, hC2, hg2⟩
    have hs2 := slit_small s hs
    have hS2 := hS1.grown hg2 hbN
    have hw2 := hw1.trans hg2
    have z2 := hS2.lt
    clear hs hP hC1 hg2 hS1 hw1
    go_wp2_with fail
    refine (sParseShiftO s _ (by omega)).mono ?_
    rintro e w3 ⟨c, v3, L, b, rfl, hO, HR, hb3⟩
    have hOk := shR_ok HR.out
    have hC3 := hC2.keep hb3
    have hS3 := hS2.below hb3 z2
    have hw3 := hw2.trans (growL hb3 (some N))
    have z3 := hS3.lt
    obtain ⟨a3, c3, rfl⟩ := hO.form rfl
    have hOa := hO.mono (show w.heap.size ≤ w2.heap.size by omega)
    have hol := (hO.mono (show w.heap.size + 1 ≤ w2.heap.size by omega)).lt
    obtain ⟨r0, r1, rf0, rf1, rl⟩ := hS3
    have hne3 : ¬ w3.heap.size = w.heap.size := by omega
    clear hC2 hS2 hw2 hb3 hO HR
    go_wp2
    refine bodyPost_ret (v := .agg #[.int .i64 c, .slice a3 (strs L).length c3]) (by simp [results, Tryz.results80, go_sem, z3, r0, r1]) rfl ⟨_, _, L, rfl, hOk, ?_, ?_, ?_⟩
    · exact ((hOa.setOut (a := ⟨w.heap.size, 0, none⟩) (fun k hk => by have := hol k hk; show k ≠ w.heap.size; omega) _).setOut (a := ⟨w.heap.size, 1, none⟩) (fun k hk => by have := hol k hk; show k ≠ w.heap.size; omega) _).keep (below_alloc _ _)
    · exact ((hC3.set (a := ⟨w.heap.size, 0, none⟩) (show N < w.heap.size by omega) _).set (a := ⟨w.heap.size, 1, none⟩) (show N < w.heap.size by omega) _).keep (below_alloc _ _)
    · exact (growSet (growSet hw3 (a := ⟨w.heap.size, 0, none⟩) (Nat.le_refl _) _) (a := ⟨w.heap.size, 1, none⟩) (Nat.le_refl _) _).trans (growA _ _ _)
end Go.Proofs.YtkohadoicebojaaGreatDoor

namespace Go.Proofs.YtkohadoicebojaaGreatDoor
open Go.RowKit Go.Deep
def blits : List ByteArray := [⟨#[97]⟩, ⟨#[]⟩, ⟨#[100]⟩, ⟨#[97, 97, 97, 97]⟩]
theorem blit_small : ∀ s ∈ blits, s.size ≤ 4 := by
  intro s hs
  simp only [blits, List.mem_cons, List.not_mem_nil, or_false] at hs
  rcases hs with rfl | rfl | rfl | rfl <;> decide
theorem ShOk.wide {k z k' z' : Nat} {c : Int} {L : List ByteArray} (h : ShOk k z c L) (hk : k ≤ k') (hz : z ≤ z') : ShOk k' z' c L :=
  ⟨h.1, h.2.1, Nat.le_trans h.2.2.1 hk, fun x hx => Nat.le_trans (h.2.2.2 x hx) hz⟩
set_option maxRecDepth 10000 in
set_option maxHeartbeats 1600000 in
theorem l3Bent (w0 : World) (N n : Nat) (v : Value) (l : List UInt8) (w : World) (hv : BytesV w0 v l) (hl : l.length = n) (hC : Cur w0 N v n w) :
    Calls Tryz.prog 82 #[.pointer (some ⟨N, 0, none⟩)] w fun e w' => ∃ c v' L, e = .returned (.agg #[.int .i64 c, v']) ∧ ShOk 9 4 c L ∧ Own 9 w.heap.size w' v' (strs L) ∧ Cur w0 N v n w' ∧ w.grownBy w' (some N) := by
  have hlt0 := hC.lt
  have hC0 := hC.keep (below_alloc w (.cells #[.int .i64 0, .slice none 0 0] 41))
  have hg0 := growA w (.cells #[.int .i64 0, .slice none 0 0] 41) (some N)
  have hS0 := Sh.new w 41 0 (.slice none 0 0)
  have hbN : some w.heap.size ≠ some N := fun e => by have := Option.some.inj e; omega
  have hsz0 : (w.alloc (.cells #[.int .i64 0, .slice none 0 0] 41)).heap.size = w.heap.size + 1 := by simp
  go_enter Tryz.func82, Tryz.ntmps82
  go_wp2_with fail
  refine (l3Draw w0 N n v l _ hv hl hC0).mono ?_
  rintro e w1 ⟨c, v1, L, rfl, hOk, hO, hC1, hg1⟩
  have hS1 := hS0.grown hg1 hbN
  have hw1 := hg0.trans hg1
  rw [hsz0] at hO
  have hol := hO.lt
  have z1 := hg1.size
  rw [hsz0] at z1
  obtain ⟨a, m, rfl⟩ : ∃ a m, v1 = .slice a L.length m := by
    obtain ⟨a, m, e⟩ := hO.form rfl
    exact ⟨a, m, by rw [e, strs_length]⟩
  obtain ⟨ln, hln⟩ : ∃ k, L.length = k := ⟨_, rfl⟩
  rw [hln] at hO hol ⊢
  have HLN := Lib.hid hln
  clear hC0 hg0 hS0 hg1 hln
  obtain ⟨b3, hb3⟩ : ∃ b, w1.heap.size = b := ⟨_, rfl⟩
  have hX := below_alloc w1 (.cells #[.int .i64 c, .slice a ln m] 41)
  have hCa := hC1.keep hX
  have hT : Sh b3 (w1.alloc (.cells #[.int .i64 c, .slice a ln m] 41)) c (.slice a ln m) := by rw [← hb3]; exact Sh.new w1 _ c _
  have hSa := hS1.below hX (by omega)
  have hU : Own 41 b3 (w1.alloc (.cells #[.int .i64 c, .slice a ln m] 41)) (.slice (some ⟨b3, 0, none⟩) 2 2) [.int .i64 c, .slice a ln m] := by rw [← hb3]; exact World.ownsRow_lit w1 #[.int .i64 c, .slice a ln m] 2 (Nat.le_refl _) (by simp [maxLen]) rfl
  have hOa := hO.keep hX
  have hwa := hw1.trans (growA w1 (.cells #[.int .i64 c, .slice a ln m] 41) (some N))
  have hza : (w1.alloc (.cells #[.int .i64 c, .slice a ln m] 41)).heap.size = b3 + 1 := by simp [hb3]
  have hol3 : ∀ k, (Value.slice a ln m).ownBlock = some k → w.heap.size + 1 ≤ k ∧ k < b3 := fun k hk => by have := hol k hk; omega
  have hb3N : some b3 ≠ some N := fun e => by have := Option.some.inj e; omega
  have hb3w : w.heap.size + 1 ≤ b3 := by omega
  clear hC1 hS1 hO hw1 hX hol z1
  go_wp2_with fail
  refine (l1Below w0 N n v l (w1.alloc (.cells #[.int .i64 c, .slice a ln m] 41)) hv hl hCa 16 (by omega) (by omega)).mono ?_
  rintro e w2 ⟨d, rfl, hd, hC2, hg2⟩
  have hT2 := hT.grown hg2 hb3N
  have hU2 := hU.grownN hg2 (by omega)
  have hS2 := hSa.grown hg2 hbN
  have hO2 := hOa.grownN hg2 (by omega)
  have hw2 := hwa.trans hg2
  have z2 := hg2.size
  rw [hza] at z2
  clear hT hSa hOa hwa hCa hg2 hza hU
  by_cases d0 : d = 0
  · subst d0
    rw [show ((0 : Nat) : Int) = 0 from rfl]
    go_wp2_with fail
    refine (pickI w0 N n v l w2 hv hl hC2 [0, 4, 1] 3 3 rfl (by omega) (by omega) 3).mono ?_
    rintro e w3 ⟨y, rfl, hy, hC3, hg3⟩
    have hy2 : 0 ≤ y ∧ y ≤ 4 := by
      simp only [List.mem_cons, List.not_mem_nil, or_false] at hy
      omega
    obtain ⟨t0, t1, tf0, tf1, tl⟩ := hT2.grown hg3 hb3N
    obtain ⟨r0, r1, rf0, rf1, rl⟩ := hS2.grown hg3 hbN
    have hO3 := hO2.grownN hg3 (by omega)
    have hw3 := hw2.trans hg3
    have hne : ¬ b3 = w.heap.size := by omega
    have hne' : ¬ w.heap.size = b3 := by omega
    clear hC2 hT2 hS2 hO2 hw2 hg3 hy hb3
    go_wp2
    refine bodyPost_ret (v := .agg #[.int .i64 y, .slice a ln m]) (by simp [results, Tryz.results82, go_sem, r0, r1]) rfl ⟨_, _, L, rfl, ⟨hy2.1, hy2.2, (hOk.wide (by omega) (by omega)).2.2⟩, ?_, ?_, ?_⟩
    · exact (((hO3.mono (Nat.le_succ _)).setOut (a := ⟨b3, 0, none⟩) (fun k hk => by have := hol3 k hk; show k ≠ b3; omega) _).setOut (a := ⟨w.heap.size, 0, none⟩) (fun k hk => by have := hol3 k hk; show k ≠ w.heap.size; omega) _).setOut (a := ⟨w.heap.size, 1, none⟩) (fun k hk => by have := hol3 k hk; show k ≠ w.heap.size; omega) _
    · exact ((hC3.set (a := ⟨b3, 0, none⟩) (show N < b3 by omega) _).set (a := ⟨w.heap.size, 0, none⟩) (show N < w.heap.size by omega) _).set (a := ⟨w.heap.size, 1, none⟩) (show N < w.heap.size by omega) _
    · exact growSet (growSet (growSet hw3 (a := ⟨b3, 0, none⟩) (show w.heap.size ≤ b3 by omega) _) (a := ⟨w.heap.size, 0, none⟩) (Nat.le_refl _) _) (a := ⟨w.heap.size, 1, none⟩) (Nat.le_refl _) _
  · have d1 : ((d : Int) == 0) = false := beq_eq_false_iff_ne.2 (by omega)
    by_cases d2 : d = 1
    · subst d2
      rw [show ((1 : Nat) : Int) = 1 from rfl]
      clear d0 d1
      have hd : Below w2.heap.size w2 (w2.alloc (.cells (strs blits).toArray 9)).drew := (below_alloc w2 (.cells (strs blits).toArray 9)).drew
      have hCd := hC2.keep hd
      have hlt2 := hC2.lt
      have hP : Hid (Calls Tryz.prog 103 #[.pointer (some ⟨N, 0, none⟩), .slice (some ⟨w2.heap.size, 0, none⟩) 4 4] (w2.alloc (.cells (strs blits).toArray 9)).drew fun e w' => ∃ x, e = .returned (.string x) ∧ x ∈ blits ∧ Cur w0 N v n w' ∧ (w2.alloc (.cells (strs blits).toArray 9)).drew.grownBy w' (some N)) := Lib.hid (l1Pick w0 N n v l _ hv hl hCd w2.heap.size (by omega) blits 4 rfl (by omega) (by omega) (fun j x hj => lit_cell w2 (strs blits) 9 (by rw [strs_get?, hj]; rfl)) 4)
      have hTd := hT2.below hd hT2.lt
      obtain ⟨t0, t1, tf0, tf1, tl⟩ := hTd
      have t12 := hT2.c1
      have hOd := hO2.keep hd
      have hUd := hU2.keep hd
      have hSd := hS2.below hd hS2.lt
      have hwd := (hw2.trans (growA w2 (.cells (strs blits).toArray 9) (some N))).trans (grow_drew _ 1 (some N))
      have t1b : (w2.alloc (.cells #[.string ⟨#[97]⟩, .string ⟨#[]⟩, .string ⟨#[100]⟩, .string ⟨#[97, 97, 97, 97]⟩] 9)).cell? ⟨b3, 1, none⟩ = some (.slice a ln m) := t1
      have hl9 : ln ≤ 8 := by have := hOk.2.2.1; have := HLN.out; omega
      have hol6 : ∀ k, (Value.slice a ln m).ownBlock = some k → k ≠ b3 ∧ k ≠ w.heap.size ∧ k ≠ N := fun k hk => by have := hol3 k hk; omega
      have HZ := Lib.hid hOk.2.2.2
      clear hC2 hT2 hO2 hS2 hw2 hCd hd hb3
      go_wp2
      go_region_law (first
        | (go_simp; go_at_call 103; refine hP.out.mono ?_; rintro e w3 ⟨x, rfl, hx, hC3, hg3⟩; have hx4 := blit_small x hx; have hT3 := (Sh.mk t0 t1 tf0 tf1 tl).grown hg3 hb3N; have t13 := hT3.c1; have hA := below_alloc w3 (.cells #[.string x] 9); have t13a := cell_keep hA t13; have hT4 := hT3.below hA hT3.lt; have hS4 := (hSd.grown hg3 hbN).below hA (hSd.grown hg3 hbN).lt; have hO4 := (hOd.grownN hg3 (by omega)).keep hA; have hC4 := hC3.keep hA; have hU4 := (hUd.grownN hg3 (by omega)).keep hA; have hw4 := (hwd.trans hg3).trans (growA w3 (.cells #[.string x] 9) (some N)); have hr4 : Hid (Row (w3.alloc (.cells #[.string x] 9)) (.slice (some ⟨w3.heap.size, 0, none⟩) 1 1) (strs [x])) := Lib.hid (Own.row (World.ownsRow_lit w3 #[.string x] 1 (Nat.le_refl _) (by simp [maxLen]) rfl : Own 9 w3.heap.size _ _ (strs [x]))); have hz4 : w.heap.size + 1 ≤ (w3.alloc (.cells #[.string x] 9)).heap.size := Nat.le_trans (Nat.le_trans hb3w (Nat.le_of_lt hT3.lt)) hA.size)
        | (refine appLs 39 9 16 (.string ByteArray.empty) Tryz.underlying39 Tryz.infoStr rfl hO4 hr4.out (strs_one _) (by rw [strs_length, strs_length, HLN.out]; unfold maxLen; simp; omega) (by rw [strs_length, strs_length, HLN.out]; simp; omega) hz4 (by rfl) _ _ (by rfl) (by rfl) (by rfl) ?_; intro v' w7 ho7 hg7; have hne3 : some b3 ≠ (Value.slice a ln m).ownBlock := (fun e => (hol6 b3 e.symm).1 rfl); have hneb : some w.heap.size ≠ (Value.slice a ln m).ownBlock := (fun e => (hol6 _ e.symm).2.1 rfl); have hT7 := hT4.grown hg7 hne3; have hS7 := hS4.grown hg7 hneb; have hC7 := hC4.grown hg7 (fun k hk => (by have := hol3 k hk; omega)); have hw7 := growU hw4 hg7 (fun k hk => (by have := hol3 k hk; omega)); have hown7 := ho7.lt; have f7 := hT7.f1; have hU7 := hU4.grown hg7 (.inr hne3); have t7 := hT7.c1; have ho7b : Own 9 (w.heap.size + 1) w7 v' (strs (L ++ [x])) := (by rw [strs_append]; exact ho7); have hoth := ho7b.other hU7 (by decide); obtain ⟨a7, c7, rfl⟩ := ho7b.form rfl))
      all_goals
        obtain ⟨u0, u1, uf0, uf1, ul⟩ := hT7
        obtain ⟨r0, r1, rf0, rf1, rl⟩ := hS7
        have hnb : ∀ k, (Value.slice a7 (strs (L ++ [x])).length c7).ownBlock = some k → k ≠ b3 := fun k hk e => by
          rcases hoth with h | h
          · rw [hk] at h; cases h
          · rw [hk, e] at h; exact h rfl
        have hlt7 := ho7b.lt
        have hok : ShOk 9 4 c (L ++ [x]) := ⟨hOk.1, hOk.2.1, by rw [List.length_append, HLN.out]; simp; omega, fun y hy => by
          rcases List.mem_append.1 hy with hy | hy
          · exact Nat.le_trans (HZ.out y hy) (by omega)
          · rw [List.mem_singleton.1 hy]; exact hx4⟩
        clear hoth hU7 hU4
        go_wp2
        refine bodyPost_ret (v := .agg #[.int .i64 c, .slice a7 (strs (L ++ [x])).length c7]) (by simp [results, Tryz.results82, go_sem, r0, r1]) rfl ⟨_, _, L ++ [x], rfl, hok, ?_, ?_, ?_⟩
        · exact (((ho7b.mono (Nat.le_succ _)).setOut (a := ⟨b3, 1, none⟩) (fun k hk => hnb k hk) _).setOut (a := ⟨w.heap.size, 0, none⟩) (fun k hk => by have := hlt7 k hk; show k ≠ w.heap.size; omega) _).setOut (a := ⟨w.heap.size, 1, none⟩) (fun k hk => by have := hlt7 k hk; show k ≠ w.heap.size; omega) _
        · exact ((hC7.set (a := ⟨b3, 1, none⟩) (show N < b3 by omega) _).set (a := ⟨w.heap.size, 0, none⟩) (show N < w.heap.size by omega) _).set (a := ⟨w.heap.size, 1, none⟩) (show N < w.heap.size by omega) _
        · exact growSet (growSet (growSet hw7 (a := ⟨b3, 1, none⟩) (show w.heap.size ≤ b3 by omega) _) (a := ⟨w.heap.size, 0, none⟩) (Nat.le_refl _) _) (a := ⟨w.heap.size, 1, none⟩) (Nat.le_refl _) _
    · have d3 : ((d : Int) == 1) = false := beq_eq_false_iff_ne.2 (by omega)
      obtain ⟨t0, t1, tf0, tf1, tl⟩ := hT2
      obtain ⟨r0, r1, rf0, rf1, rl⟩ := hS2
      have hne : ¬ b3 = w.heap.size := by omega
      have hne' : ¬ w.heap.size = b3 := by omega
      clear hb3
      go_wp2
      refine bodyPost_ret (v := .agg #[.int .i64 c, .slice a ln m]) (by simp [results, Tryz.results82, go_sem, r0, r1]) rfl ⟨_, _, L, rfl, hOk.wide (by omega) (by omega), ?_, ?_, ?_⟩
      · exact ((hO2.mono (Nat.le_succ _)).setOut (a := ⟨w.heap.size, 0, none⟩) (fun k hk => by have := hol3 k hk; show k ≠ w.heap.size; omega) _).setOut (a := ⟨w.heap.size, 1, none⟩) (fun k hk => by have := hol3 k hk; show k ≠ w.heap.size; omega) _
      · exact (hC2.set (a := ⟨w.heap.size, 0, none⟩) (show N < w.heap.size by omega) _).set (a := ⟨w.heap.size, 1, none⟩) (show N < w.heap.size by omega) _
      · exact growSet (growSet hw2 (a := ⟨w.heap.size, 0, none⟩) (Nat.le_refl _) _) (a := ⟨w.heap.size, 1, none⟩) (Nat.le_refl _) _
end Go.Proofs.YtkohadoicebojaaGreatDoor

namespace Go.Proofs.YtkohadoicebojaaGreatDoor
open Go.RowKit Go.Deep
def sseps : List ByteArray := [⟨#[32]⟩, ⟨#[97]⟩, ⟨#[50]⟩, ⟨#[98]⟩, ⟨#[45]⟩]
theorem ssep_small : ∀ s ∈ sseps, s.size ≤ 4 := by
  intro s hs
  simp only [sseps, List.mem_cons, List.not_mem_nil, or_false] at hs
  rcases hs with rfl | rfl | rfl | rfl | rfl <;> decide
theorem shT_size (k : Int) (l : List ByteArray) : (shT k l).size ≤ 2000 := by
  cases h : isShift k l
  · unfold shT; rw [h]; show ByteArray.empty.size ≤ 2000; decide
  · have hk := isShift_num h
    have h1 := isShift_small h
    have h2 : (fmtI k).size ≤ 21 := fmtI_small (by omega) (by omega)
    unfold shT
    rw [h]
    show (joined (shTexts k l) ⟨#[32]⟩).size ≤ 2000
    have h3 := joined_small (l := shTexts k l) (b := ⟨#[32]⟩) (Nat.le_refl 1)
    have h4 : (shTexts k l).length = l.length + 1 := by simp [shTexts]
    have h5 : totalS (shTexts k l) = (fmtI k).size + totalS l := by simp [shTexts, totalS]
    omega
theorem avoL_small {k : Int} {f : List ByteArray} {n : Int} {x : ByteArray} (h : x ∈ avoL k f n) : x.size ≤ 16 := by
  unfold avoL at h
  split at h
  · rename_i hB
    unfold langB at hB
    rw [Bool.and_eq_true] at hB
    have h2 := inR_iff.1 hB.2
    have := words_size _ _ x (List.mem_filter.1 h).1
    omega
  · cases h
set_option maxRecDepth 10000 in
set_option maxHeartbeats 800000 in
theorem l3Case (v : Value) (l : List UInt8) (w : World) (hv : BytesV w v l) :
    Calls Tryz.prog 78 #[v] w fun e w' => ∃ c v' L x, e = .returned (.tuple #[.agg #[.int .i64 c, v'], .int .i64 x]) ∧ ShOk 9 4 c L ∧ Own 9 w.heap.size w' v' (strs L) ∧ Below w.heap.size w w' := by
  obtain ⟨av, cap, rfl, _, _⟩ := Row.open hv
  have hX := below_alloc w (.cells #[.int .i64 0, .slice none 0 0] 41)
  have hv0 : BytesV (w.alloc (.cells #[.int .i64 0, .slice none 0 0] 41)) (.slice av (bv l).length cap) l := Row.keep hv hX
  have hS0 := Sh.new w 41 0 (.slice none 0 0)
  go_enter Tryz.func78, Tryz.ntmps78
  go_wp2_with fail
  refine (l1New _ l _ hv0).mono ?_
  rintro e w1 ⟨N, rfl, hC, b1⟩
  have hS1 := hS0.below b1 hS0.lt
  have hN := hC.1
  rw [show (w.alloc (.cells #[.int .i64 0, .slice none 0 0] 41)).heap.size = w.heap.size + 1 by simp] at hN
  have hbN : some w.heap.size ≠ some N := fun e => by have := Option.some.inj e; omega
  have hlt := hC.lt
  go_wp2_with fail
  refine (l3Bent (w.alloc (.cells #[.int .i64 0, .slice none 0 0] 41)) N l.length _ l _ hv0 rfl hC).mono ?_
  rintro e w2 ⟨c, v2, L, rfl, hOk, hO, hC2, hg2⟩
  have hS2 := hS1.grown hg2 hbN
  have hOw := hO.lt
  have z2 := hg2.size
  go_wp2_with fail
  refine (l1Below (w.alloc (.cells #[.int .i64 0, .slice none 0 0] 41)) N l.length _ l _ hv0 rfl hC2 5 (by omega) (by omega)).mono ?_
  rintro e w3 ⟨y, rfl, hy, hC3, hg3⟩
  have hlt3 := hC3.lt
  go_wp2_with fail
  refine (pickI (w.alloc (.cells #[.int .i64 0, .slice none 0 0] 41)) N l.length _ l _ hv0 rfl hC3 [0, 0, 0, 0, 0, 2, -5] 3 7 rfl (by omega) (by omega) 7).mono ?_
  rintro e w4 ⟨z, rfl, hz, hC4, hg4⟩
  have hz2 : -5 ≤ z ∧ z ≤ 2 := by
    simp only [List.mem_cons, List.not_mem_nil, or_false] at hz
    omega
  have hO4 := (hO.grownN hg3 hlt).grownN hg4 hlt
  obtain ⟨r0, r1, rf0, rf1, rl⟩ := (hS2.grown hg3 hbN).grown hg4 hbN
  have hz1 := hz2.1
  have hz3 := hz2.2
  clear hz hz2
  obtain ⟨a2, m2, rfl⟩ := hO.form rfl
  go_wp2
  refine bodyPost_ret (v := .tuple #[.agg #[.int .i64 c, .slice a2 (strs L).length m2], .int .i64 ((y : Int) + z)]) (by simp [results, Tryz.results78, go_sem, r0, r1]) rfl ⟨_, _, L, _, rfl, hOk, ?_, ?_⟩
  · exact ((hO4.mono (show w.heap.size ≤ w1.heap.size by omega)).setOut (a := ⟨w.heap.size, 0, none⟩) (fun k hk => by have := hOw k hk; show k ≠ w.heap.size; omega) _).setOut (a := ⟨w.heap.size, 1, none⟩) (fun k hk => by have := hOw k hk; show k ≠ w.heap.size; omega) _
  · exact ((hX.trans (hC4.2.1.mono (by simp))).setCell (p := ⟨w.heap.size, 0, none⟩) (Nat.le_refl _) _).setCell (p := ⟨w.heap.size, 1, none⟩) (Nat.le_refl _) _
set_option maxRecDepth 10000 in
set_option maxHeartbeats 800000 in
theorem dLang (v : Value) (l : List UInt8) (w : World) (hv : BytesV w v l) :
    Calls Tryz.prog 27 #[v] w fun e w' => ∃ c v' L x, e = .returned (.tuple #[.agg #[.int .i64 c, v'], .int .i64 x]) ∧ ShOk 9 4 c L ∧ Own 9 w.heap.size w' v' (strs L) ∧ Below w.heap.size w w' := by
  obtain ⟨av, cap, rfl, _, _⟩ := Row.open hv
  have hX := below_alloc w (.cells #[.int .i64 0, .slice none 0 0] 41)
  have hv0 : BytesV (w.alloc (.cells #[.int .i64 0, .slice none 0 0] 41)) (.slice av (bv l).length cap) l := Row.keep hv hX
  have hS0 := Sh.new w 41 0 (.slice none 0 0)
  have hz0 : (w.alloc (.cells #[.int .i64 0, .slice none 0 0] 41)).heap.size = w.heap.size + 1 := by simp
  go_enter Tryz.func27, Tryz.ntmps27
  go_wp2_with fail
  refine (l3Case _ l _ hv0).mono ?_
  rintro e w1 ⟨c, v2, L, x, rfl, hOk, hO, b1⟩
  obtain ⟨r0, r1, rf0, rf1, rl⟩ := hS0.below b1 hS0.lt
  rw [hz0] at hO
  have hOw := hO.lt
  have hb := hX.trans (b1.mono (by omega))
  obtain ⟨a2, m2, rfl⟩ := hO.form rfl
  have hne : ¬ w1.heap.size = w.heap.size := by omega
  go_wp2
  refine bodyPost_ret (v := .tuple #[.agg #[.int .i64 c, .slice a2 (strs L).length m2], .int .i64 x]) (by simp [results, Tryz.results27, go_sem, rl, r0, r1]) rfl ⟨_, _, L, _, rfl, hOk, ?_, ?_⟩
  · exact (((hO.mono (Nat.le_succ _)).setOut (a := ⟨w.heap.size, 0, none⟩) (fun k hk => by have := hOw k hk; show k ≠ w.heap.size; omega) _).setOut (a := ⟨w.heap.size, 1, none⟩) (fun k hk => by have := hOw k hk; show k ≠ w.heap.size; omega) _).keep (below_alloc _ _)
  · exact ((hb.setCell (p := ⟨w.heap.size, 0, none⟩) (Nat.le_refl _) _).setCell (p := ⟨w.heap.size, 1, none⟩) (Nat.le_refl _) _).alloc (by simp; omega) _
set_option maxRecDepth 10000 in
set_option maxHeartbeats 800000 in
theorem dAvw (v : Value) (l : List UInt8) (w : World) (hv : BytesV w v l) :
    Calls Tryz.prog 29 #[v] w fun e w' => ∃ c v' L x, e = .returned (.tuple #[.agg #[.int .i64 c, v'], .int .i64 x]) ∧ ShOk 9 4 c L ∧ Own 9 w.heap.size w' v' (strs L) ∧ Below w.heap.size w w' := by
  obtain ⟨av, cap, rfl, _, _⟩ := Row.open hv
  have hX := below_alloc w (.cells #[.int .i64 0, .slice none 0 0] 41)
  have hv0 : BytesV (w.alloc (.cells #[.int .i64 0, .slice none 0 0] 41)) (.slice av (bv l).length cap) l := Row.keep hv hX
  have hS0 := Sh.new w 41 0 (.slice none 0 0)
  have hz0 : (w.alloc (.cells #[.int .i64 0, .slice none 0 0] 41)).heap.size = w.heap.size + 1 := by simp
  go_enter Tryz.func29, Tryz.ntmps29
  go_wp2_with fail
  refine (l3Case _ l _ hv0).mono ?_
  rintro e w1 ⟨c, v2, L, x, rfl, hOk, hO, b1⟩
  obtain ⟨r0, r1, rf0, rf1, rl⟩ := hS0.below b1 hS0.lt
  rw [hz0] at hO
  have hOw := hO.lt
  have hb := hX.trans (b1.mono (by omega))
  obtain ⟨a2, m2, rfl⟩ := hO.form rfl
  have hne : ¬ w1.heap.size = w.heap.size := by omega
  go_wp2
  refine bodyPost_ret (v := .tuple #[.agg #[.int .i64 c, .slice a2 (strs L).length m2], .int .i64 x]) (by simp [results, Tryz.results29, go_sem, rl, r0, r1]) rfl ⟨_, _, L, _, rfl, hOk, ?_, ?_⟩
  · exact (((hO.mono (Nat.le_succ _)).setOut (a := ⟨w.heap.size, 0, none⟩) (fun k hk => by have := hOw k hk; show k ≠ w.heap.size; omega) _).setOut (a := ⟨w.heap.size, 1, none⟩) (fun k hk => by have := hOw k hk; show k ≠ w.heap.size; omega) _).keep (below_alloc _ _)
  · exact ((hb.setCell (p := ⟨w.heap.size, 0, none⟩) (Nat.le_refl _) _).setCell (p := ⟨w.heap.size, 1, none⟩) (Nat.le_refl _) _).alloc (by simp; omega) _
set_option maxRecDepth 10000 in
set_option maxHeartbeats 800000 in
theorem dAvoids (v : Value) (l : List UInt8) (w : World) (hv : BytesV w v l) :
    Calls Tryz.prog 34 #[v] w fun e w' => ∃ c v' L, ∃ s : ByteArray, e = .returned (.tuple #[.agg #[.int .i64 c, v'], .string s]) ∧ ShOk 9 4 c L ∧ s.size ≤ 16 ∧ Own 9 w.heap.size w' v' (strs L) ∧ Below w.heap.size w w' := by
  obtain ⟨av, cap, rfl, _, _⟩ := Row.open hv
  have hX := below_alloc w (.cells #[.int .i64 0, .slice none 0 0] 41)
  have hv0 : BytesV (w.alloc (.cells #[.int .i64 0, .slice none 0 0] 41)) (.slice av (bv l).length cap) l := Row.keep hv hX
  have hS0 := Sh.new w 41 0 (.slice none 0 0)
  go_enter Tryz.func34, Tryz.ntmps34
  go_wp2_with fail
  refine (l1New _ l _ hv0).mono ?_
  rintro e w1 ⟨N, rfl, hC, b1⟩
  have hS1 := hS0.below b1 hS0.lt
  have hN := hC.1
  rw [show (w.alloc (.cells #[.int .i64 0, .slice none 0 0] 41)).heap.size = w.heap.size + 1 by simp] at hN
  have hbN : some w.heap.size ≠ some N := fun e => by have := Option.some.inj e; omega
  have hlt := hC.lt
  go_wp2_with fail
  refine (l3Bent (w.alloc (.cells #[.int .i64 0, .slice none 0 0] 41)) N l.length _ l _ hv0 rfl hC).mono ?_
  rintro e w2 ⟨c, v2, L, rfl, hOk, hO, hC2, hg2⟩
  have hS2 := hS1.grown hg2 hbN
  have hOw := hO.lt
  have z2 := hg2.size
  go_wp2_with fail
  refine (l2Bent (w.alloc (.cells #[.int .i64 0, .slice none 0 0] 41)) N l.length _ l _ hv0 rfl hC2).mono ?_
  rintro e w3 ⟨s, rfl, hs, hC3, hg3⟩
  have hO4 := hO.grownN hg3 hlt
  obtain ⟨r0, r1, rf0, rf1, rl⟩ := hS2.grown hg3 hbN
  obtain ⟨a2, m2, rfl⟩ := hO.form rfl
  go_wp2
  refine bodyPost_ret (v := .tuple #[.agg #[.int .i64 c, .slice a2 (strs L).length m2], .string s]) (by simp [results, Tryz.results34, go_sem, r0, r1]) rfl ⟨_, _, L, s, rfl, hOk, hs, ?_, ?_⟩
  · exact ((hO4.mono (show w.heap.size ≤ w1.heap.size by omega)).setOut (a := ⟨w.heap.size, 0, none⟩) (fun k hk => by have := hOw k hk; show k ≠ w.heap.size; omega) _).setOut (a := ⟨w.heap.size, 1, none⟩) (fun k hk => by have := hOw k hk; show k ≠ w.heap.size; omega) _
  · exact ((hX.trans (hC3.2.1.mono (by simp))).setCell (p := ⟨w.heap.size, 0, none⟩) (Nat.le_refl _) _).setCell (p := ⟨w.heap.size, 1, none⟩) (Nat.le_refl _) _
set_option maxRecDepth 10000 in
set_option maxHeartbeats 800000 in
theorem dPShift (v : Value) (l : List UInt8) (w : World) (hv : BytesV w v l) :
    Calls Tryz.prog 30 #[v] w fun e w' => ∃ t : ByteArray, e = .returned (.string t) ∧ t.size ≤ 3000 ∧ Below w.heap.size w w' := by
  obtain ⟨av, cap, rfl, _, _⟩ := Row.open hv
  go_enter Tryz.func30, Tryz.ntmps30
  go_wp2_with fail
  refine (l1New _ l _ hv).mono ?_
  rintro e w1 ⟨N, rfl, hC, b1⟩
  go_wp2_with fail
  refine (l3Draw w N l.length _ l _ hv rfl hC).mono ?_
  rintro e w2 ⟨c, v2, L, rfl, hOk, hO, hC2, hg2⟩
  obtain ⟨a2, m2, rfl⟩ := hO.form rfl
  have hc0 := hOk.1
  have hc1 := hOk.2.1
  go_wp2_with fail
  refine (sShiftText c _ L _ (OwnS.strs (show OwnS _ _ _ _ L from hO)) (fun x hx => Nat.le_trans (hOk.2.2.2 x hx) (by omega)) (by omega) (by omega)).mono ?_
  rintro e w3 ⟨rfl, hb3⟩
  have hC3 := hC2.keep hb3
  have hz := shT_size c L
  obtain ⟨s, hs⟩ : ∃ s, shT c L = s := ⟨_, rfl⟩
  rw [hs] at hz ⊢
  clear hs
  have hT := Lib.hid (l1Turned w N l.length _ l w3 hv rfl hC3 s s.size rfl (by omega) sseps 9 5 rfl (by omega) (by omega) ssep_small)
  go_wp2_with fail
  refine hT.out.mono ?_
  rintro e w4 ⟨t, rfl, ht, hC4, hg4⟩
  have b4 := hC4.2.1
  go_wp2
  go_ret
  exact ⟨t, rfl, by omega, b4⟩
set_option maxRecDepth 10000 in
set_option maxHeartbeats 1600000 in
theorem dInLang (v : Value) (l : List UInt8) (w : World) (hv : BytesV w v l) :
    Calls Tryz.prog 33 #[v] w fun e w' => ∃ c v' L, ∃ s : ByteArray, e = .returned (.tuple #[.agg #[.int .i64 c, v'], .string s]) ∧ ShOk 9 4 c L ∧ s.size ≤ 16 ∧ Own 9 w.heap.size w' v' (strs L) ∧ Below w.heap.size w w' := by
  obtain ⟨av, cap, rfl, _, _⟩ := Row.open hv
  have hX := below_alloc w (.cells #[.int .i64 0, .slice none 0 0] 41)
  have hv0 : BytesV (w.alloc (.cells #[.int .i64 0, .slice none 0 0] 41)) (.slice av (bv l).length cap) l := Row.keep hv hX
  have hS0 := Sh.new w 41 0 (.slice none 0 0)
  go_enter Tryz.func33, Tryz.ntmps33
  go_wp2_with fail
  refine (l1New _ l _ hv0).mono ?_
  rintro e w1 ⟨N, rfl, hC, b1⟩
  have hS1 := hS0.below b1 hS0.lt
  have hN := hC.1
  rw [show (w.alloc (.cells #[.int .i64 0, .slice none 0 0] 41)).heap.size = w.heap.size + 1 by simp] at hN
  have hbN : some w.heap.size ≠ some N := fun e => by have := Option.some.inj e; omega
  have hlt := hC.lt
  go_wp2_with fail
  refine (l3Bent (w.alloc (.cells #[.int .i64 0, .slice none 0 0] 41)) N l.length _ l _ hv0 rfl hC).mono ?_
  rintro e w2 ⟨c, v2, L, rfl, hOk, hO, hC2, hg2⟩
  have hS2 := hS1.grown hg2 hbN
  have hOw := hO.lt
  have z2 := hg2.size
  obtain ⟨a2, m2, hf2⟩ := hO.form rfl
  subst hf2
  rw [strs_length] at *
  obtain ⟨ln, hln⟩ : ∃ k, L.length = k := ⟨_, rfl⟩
  rw [hln] at hO hOw ⊢
  clear hln
  have hx5 := below_alloc w2 (.cells #[.int .i64 c, .slice a2 ln m2] 41)
  have hT5 := Sh.new w2 41 c (.slice a2 ln m2)
  have hC5 := hC2.keep hx5
  have hO5 := hO.keep hx5
  have hS5 := hS2.below hx5 hS2.lt
  have hd : Below (w2.alloc (.cells #[.int .i64 c, .slice a2 ln m2] 41)).heap.size (w2.alloc (.cells #[.int .i64 c, .slice a2 ln m2] 41)) (w2.alloc (.cells #[.int .i64 c, .slice a2 ln m2] 41)).drew := (Below.refl _ _).drew
  have hCd := hC5.keep hd
  have hOd := hO5.keep hd
  have hSd := hS5.below hd hS5.lt
  have hTd := hT5.below hd hT5.lt
  have hb5N : some w2.heap.size ≠ some N := fun e => by have := Option.some.inj e; have := hC2.lt; omega
  obtain ⟨t0, t1, tf0, tf1, tl⟩ := hTd
  have hP := Lib.hid (l1Below (w.alloc (.cells #[.int .i64 0, .slice none 0 0] 41)) N l.length _ l _ hv0 rfl hCd 6 (by omega) (by omega))
  have HZ : Hid (∀ x ∈ L, x.size ≤ 1048576) := Lib.hid fun x hx => Nat.le_trans (hOk.2.2.2 x hx) (by omega)
  have hS1lt : w.heap.size < w2.heap.size := hS2.lt
  clear hC5 hO5 hS5 hT5 hO hC2 hS2 hS1 hS0 hC hd
  go_wp2
  go_region_held3 (fun w' => w'.cell? ⟨w2.heap.size, 0, none⟩ = some (.int .i64 c) ∧ w'.cell? ⟨w2.heap.size, 1, none⟩ = some (.slice a2 ln m2))
    (first | assumption | exact ⟨t0, t1⟩ | exact ⟨t02, t12⟩ | exact ⟨t03, t13⟩ | go_keep)
    (first
      | (go_at_call 56; refine hP.out.mono ?_; rintro e w3 ⟨y, rfl, hy, hC3, hg3⟩; have t02 : w3.cell? ⟨w2.heap.size, 0, none⟩ = some (.int .i64 c) := hg3.cell t0 hb5N; have t12 : w3.cell? ⟨w2.heap.size, 1, none⟩ = some (.slice a2 ln m2) := hg3.cell t1 hb5N; have hT3 := (Sh.mk t0 t1 tf0 tf1 tl).grown hg3 hb5N; have hO3 := hOd.grownN hg3 hlt; have hS3 := hSd.grown hg3 hbN; have hs3 := OwnS.strs (show OwnS _ _ _ _ L from hO3))
      | (go_at_call 38; refine (sAvoidingWords c _ L y _ hs3 HZ.out).mono ?_; rintro e w4 ⟨v4, rfl, (ho4 : OwnS _ _ _ _ _), hb4⟩; have t03 : w4.cell? ⟨w2.heap.size, 0, none⟩ = some (.int .i64 c) := cell_keep hb4 t02; have t13 : w4.cell? ⟨w2.heap.size, 1, none⟩ = some (.slice a2 ln m2) := cell_keep hb4 t12; have hT4 := hT3.below hb4 hT3.lt; have hO4 := hO3.keep hb4; have hS4 := hS3.below hb4 hS3.lt; have hC4 := hC3.keep hb4))
  have HM : Hid (∀ x ∈ avoL c L y, x.size ≤ 16) := Lib.hid fun x hx => avoL_small hx
  have hlen := avoL_len c L y
  have hsl := OwnS.strs ho4
  have hol4 := Own.lt ho4
  have hN3 := hC3.lt
  obtain ⟨AL, hAL⟩ : ∃ A, avoL c L y = A := ⟨_, rfl⟩
  rw [hAL] at HM hlen hsl
  clear hAL ho4 t03 t13 hs3
  obtain ⟨a9, n9, c9, rfl, HL9, hn9, HC9⟩ := hsl.open
  have hn9b : n9 ≤ 1000 := by have := HL9.out; omega
  clear hsl hlen
  have bent : ∀ (wx : World) (_ : Cur (w.alloc (.cells #[.int .i64 0, .slice none 0 0] 41)) N (.slice av (bv l).length cap) l.length wx), Hid (Calls Tryz.prog 84 #[.pointer (some ⟨N, 0, none⟩)] wx fun e w' => ∃ s : ByteArray, e = .returned (.string s) ∧ s.size ≤ 16 ∧ Cur (w.alloc (.cells #[.int .i64 0, .slice none 0 0] 41)) N (.slice av (bv l).length cap) l.length w' ∧ wx.grownBy w' (some N)) := fun wx h => Lib.hid (l2Bent (w.alloc (.cells #[.int .i64 0, .slice none 0 0] 41)) N l.length _ l wx hv0 rfl h)
  by_cases hn0 : 0 < n9
  · go_wp2_with fail
    refine (l1Once (w.alloc (.cells #[.int .i64 0, .slice none 0 0] 41)) N l.length _ l _ hv0 rfl hC4 5 (by omega) (by omega)).mono ?_
    rintro e w5 ⟨o, rfl, hC5, hg5⟩
    have hT5 := hT4.grown hg5 hb5N
    have hO5 := hO4.grownN hg5 hlt
    have hS5 := hS4.grown hg5 hbN
    have hgl : w4.grownBy w5 (some N) := hg5
    clear hC4 hT4 hO4 hS4
    cases ho : decide (o = 0)
    · have hd5 : Below w5.heap.size w5 w5.drew := (Below.refl _ _).drew
      have hC6 := hC5.keep hd5
      have hP5 := Lib.hid (l1Below (w.alloc (.cells #[.int .i64 0, .slice none 0 0] 41)) N l.length _ l _ hv0 rfl hC6 n9 hn0 (by omega))
      have hT6 := hT5.below hd5 hT5.lt
      have hS6 := hS5.below hd5 hS5.lt
      have hO6 := hO5.keep hd5
      have k05 := hT5.c0
      have k15 := hT5.c1
      obtain ⟨k0, k1, kf0, kf1, kl⟩ := hT6
      obtain ⟨m0, m1, mf0, mf1, ml⟩ := hS6
      obtain ⟨b9, o9, x9, ha9, -, -⟩ := HC9.out 0 hn0
      subst ha9
      have HCN : Hid (∀ j, j < n9 → ∃ x : ByteArray, x.size ≤ 16 ∧ ∀ w' : World, w5.drew.grownBy w' (some N) → w'.cell? ⟨b9, o9 + j, none⟩ = some (.string x)) := Lib.hid fun j hj => by
        obtain ⟨b, off, x, hab, hc, HX⟩ := HC9.out j hj
        cases hab
        have hbN9 : some b9 ≠ some N := fun e => by
          have e2 := Option.some.inj e
          have := (hol4 b9 rfl).1
          omega
        exact ⟨x, HM.out x (List.mem_of_getElem? HX.out), fun w' hg => hg.cell (a := ⟨b9, o9 + j, none⟩) (hgl.cell (a := ⟨b9, o9 + j, none⟩) hc hbN9) hbN9⟩
      go_wp2
      go_region_law (go_simp; go_at_call 56; refine hP5.out.mono ?_; rintro e w7 ⟨j, rfl, hj, hC7, hg7⟩; obtain ⟨x, hxz, hcx⟩ := HCN.out j hj; have hcx7 := hcx w7 hg7; have hT7 := (Sh.mk k0 k1 kf0 kf1 kl).grown hg7 hb5N; have t07 := hT7.c0; have t17 := hT7.c1; have hS7 := (Sh.mk m0 m1 mf0 mf1 ml).grown hg7 hbN; obtain ⟨r0, r1, rf0, rf1, rl⟩ := hS7; have hO7 := hO6.grownN hg7 hlt; have hT8 := (hT7.grown (grow_setA w7 ⟨w.heap.size, 0, none⟩ (.int .i64 c)) (fun e => (by have := Option.some.inj e; simp at this; omega))).grown (grow_setA (w7.setCell ⟨w.heap.size, 0, none⟩ (.int .i64 c)) ⟨w.heap.size, 1, none⟩ (.slice a2 ln m2)) (fun e => (by have := Option.some.inj e; simp at this; omega)); have t08 := hT8.c0; have t18 := hT8.c1; have hne9 : ¬ w.heap.size = b9 := (by have := (hol4 b9 rfl).1; omega); have hne9' : ¬ b9 = w.heap.size := (by omega); have hne5 : ¬ w.heap.size = w2.heap.size := (by omega); have hne5' : ¬ w2.heap.size = w.heap.size := (by omega))
      all_goals
        go_wp2
        refine bodyPost_ret (v := .tuple #[.agg #[.int .i64 c, .slice a2 ln m2], .string x]) (by simp [results, Tryz.results33, go_sem, r0, r1]) rfl ⟨_, _, L, x, rfl, hOk, hxz, ?_, ?_⟩
        · exact ((hO7.mono (show w.heap.size ≤ w1.heap.size by omega)).setOut (a := ⟨w.heap.size, 0, none⟩) (fun k hk => by have := hOw k hk; show k ≠ w.heap.size; omega) _).setOut (a := ⟨w.heap.size, 1, none⟩) (fun k hk => by have := hOw k hk; show k ≠ w.heap.size; omega) _
        · exact ((hX.trans (hC7.2.1.mono (by simp))).setCell (p := ⟨w.heap.size, 0, none⟩) (Nat.le_refl _) _).setCell (p := ⟨w.heap.size, 1, none⟩) (Nat.le_refl _) _
    ·
      have hd5 : Below w5.heap.size w5 w5.drew := (Below.refl _ _).drew
      have hC6 := hC5.keep hd5
      have hP5 := bent _ hC6
      have hT6 := hT5.below hd5 hT5.lt
      have hS6 := hS5.below hd5 hS5.lt
      have hO6 := hO5.keep hd5
      obtain ⟨k0, k1, kf0, kf1, kl⟩ := hT6
      obtain ⟨m0, m1, mf0, mf1, ml⟩ := hS6
      clear HC9 HM HL9
      go_wp2
      go_region_held3 (fun w' => w'.cell? ⟨w2.heap.size, 0, none⟩ = some (.int .i64 c) ∧ w'.cell? ⟨w2.heap.size, 1, none⟩ = some (.slice a2 ln m2))
        (first | assumption | exact ⟨k0, k1⟩ | exact ⟨t07, t17⟩ | exact ⟨t08, t18⟩ | go_keep)
        ((go_at_call 84; refine hP5.out.mono ?_; rintro e w7 ⟨x, rfl, hxz, hC7, hg7⟩; have hT7 := (Sh.mk k0 k1 kf0 kf1 kl).grown hg7 hb5N; have t07 := hT7.c0; have t17 := hT7.c1; have hS7 := (Sh.mk m0 m1 mf0 mf1 ml).grown hg7 hbN; obtain ⟨r0, r1, rf0, rf1, rl⟩ := hS7; have hO7 := hO6.grownN hg7 hlt; have hT8 := (hT7.grown (grow_setA w7 ⟨w.heap.size, 0, none⟩ (.int .i64 c)) (fun e => (by have := Option.some.inj e; simp at this; omega))).grown (grow_setA (w7.setCell ⟨w.heap.size, 0, none⟩ (.int .i64 c)) ⟨w.heap.size, 1, none⟩ (.slice a2 ln m2)) (fun e => (by have := Option.some.inj e; simp at this; omega)); have t08 := hT8.c0; have t18 := hT8.c1))
      go_wp2
      refine bodyPost_ret (v := .tuple #[.agg #[.int .i64 c, .slice a2 ln m2], .string x]) (by simp [results, Tryz.results33, go_sem, r0, r1]) rfl ⟨_, _, L, x, rfl, hOk, hxz, ?_, ?_⟩
      · exact ((hO7.mono (show w.heap.size ≤ w1.heap.size by omega)).setOut (a := ⟨w.heap.size, 0, none⟩) (fun k hk => by have := hOw k hk; show k ≠ w.heap.size; omega) _).setOut (a := ⟨w.heap.size, 1, none⟩) (fun k hk => by have := hOw k hk; show k ≠ w.heap.size; omega) _
      · exact ((hX.trans (hC7.2.1.mono (by simp))).setCell (p := ⟨w.heap.size, 0, none⟩) (Nat.le_refl _) _).setCell (p := ⟨w.heap.size, 1, none⟩) (Nat.le_refl _) _
  · have e9 : n9 = 0 := by omega
    subst e9
    have hd5 : Below w4.heap.size w4 w4.drew := (Below.refl _ _).drew
    have hC6 := hC4.keep hd5
    have hP5 := bent _ hC6
    have hT6 := hT4.below hd5 hT4.lt
    have hS6 := hS4.below hd5 hS4.lt
    have hO6 := hO4.keep hd5
    obtain ⟨k0, k1, kf0, kf1, kl⟩ := hT6
    obtain ⟨m0, m1, mf0, mf1, ml⟩ := hS6
    clear HC9 HM HL9
    go_wp2
    go_region_held3 (fun w' => w'.cell? ⟨w2.heap.size, 0, none⟩ = some (.int .i64 c) ∧ w'.cell? ⟨w2.heap.size, 1, none⟩ = some (.slice a2 ln m2))
      (first | assumption | exact ⟨k0, k1⟩ | exact ⟨t07, t17⟩ | exact ⟨t08, t18⟩ | go_keep)
      ((go_at_call 84; refine hP5.out.mono ?_; rintro e w7 ⟨x, rfl, hxz, hC7, hg7⟩; have hT7 := (Sh.mk k0 k1 kf0 kf1 kl).grown hg7 hb5N; have t07 := hT7.c0; have t17 := hT7.c1; have hS7 := (Sh.mk m0 m1 mf0 mf1 ml).grown hg7 hbN; obtain ⟨r0, r1, rf0, rf1, rl⟩ := hS7; have hO7 := hO6.grownN hg7 hlt; have hT8 := (hT7.grown (grow_setA w7 ⟨w.heap.size, 0, none⟩ (.int .i64 c)) (fun e => (by have := Option.some.inj e; simp at this; omega))).grown (grow_setA (w7.setCell ⟨w.heap.size, 0, none⟩ (.int .i64 c)) ⟨w.heap.size, 1, none⟩ (.slice a2 ln m2)) (fun e => (by have := Option.some.inj e; simp at this; omega)); have t08 := hT8.c0; have t18 := hT8.c1))
    go_wp2
    refine bodyPost_ret (v := .tuple #[.agg #[.int .i64 c, .slice a2 ln m2], .string x]) (by simp [results, Tryz.results33, go_sem, r0, r1]) rfl ⟨_, _, L, x, rfl, hOk, hxz, ?_, ?_⟩
    · exact ((hO7.mono (show w.heap.size ≤ w1.heap.size by omega)).setOut (a := ⟨w.heap.size, 0, none⟩) (fun k hk => by have := hOw k hk; show k ≠ w.heap.size; omega) _).setOut (a := ⟨w.heap.size, 1, none⟩) (fun k hk => by have := hOw k hk; show k ≠ w.heap.size; omega) _
    · exact ((hX.trans (hC7.2.1.mono (by simp))).setCell (p := ⟨w.heap.size, 0, none⟩) (Nat.le_refl _) _).setCell (p := ⟨w.heap.size, 1, none⟩) (Nat.le_refl _) _
end Go.Proofs.YtkohadoicebojaaGreatDoor
