/- Contract of the program's TurnsOf. No statement is proved here. -/
import Derived.Test.YtenjakgahniijaaTurnS
import Derived.Test.YtenjakgahniijaaLively
namespace Go.Proofs.Ytenjakgahniijaa
open Go.RowKit Go.Deep
theorem Own.grownOut {e : TypeId} {B H : Nat} {w w' : World} {v u : Value} {xs : List Value} (h : Own e B w v xs) (hH : ∀ k, v.ownBlock = some k → k < H) (hg : w.grownBy w' u.ownBlock) (ho : Out B H u) : Own e B w' v xs := by
  refine h.grown hg ?_
  cases e2 : v.ownBlock with
  | none => exact .inl rfl
  | some k =>
    refine .inr fun e3 => ?_
    have h1 := (h.lt k e2).1
    have h2 := hH k e2
    have h3 := ho k e3.symm
    omega
theorem out_of {lo hi g n c : Nat} (h : g < lo ∨ hi ≤ g) : Out lo hi (.slice (some ⟨g, 0, none⟩) n c) := fun k hk => by
  simp only [Value.ownBlock, Option.some.injEq] at hk
  subst hk; exact h
theorem cnt_add {L : Nat → Bool} {b : Nat} (hL : L b = false) : ∀ {n}, b < n → cnt (addB L b) n = cnt L n + 1 := by
  have key : ∀ k, k ≤ b → cnt (addB L b) k = cnt L k := by
    intro k
    induction k with
    | zero => intro _; rfl
    | succ k ih =>
      intro hk
      simp only [cnt]
      rw [ih (by omega)]
      have : ¬ k = b := by omega
      simp [addB, this]
  intro n
  induction n with
  | zero => intro h; omega
  | succ n ih =>
    intro h
    simp only [cnt]
    by_cases e : n = b
    · subst e
      rw [key n (Nat.le_refl _), hL, addB_new]; simp
    · rw [ih (by omega)]
      simp only [addB, decide_eq_false e, Bool.or_false]; omega
/-- The state of the search: the queue q, of which k are done, and the vertices seen. -/
structure Bfs (m : List (List Int)) (n : Nat) (q : List Int) (k : Nat) (L : Nat → Bool) : Prop where
  zero : L 0 = true
  mem : ∀ x ∈ q, ∃ a : Nat, x = a ∧ a < n ∧ L a = true
  all : ∀ a, a < n → L a = true → (a : Int) ∈ q
  len : q.length = cnt L n
  done : ∀ (i a : Nat), i < k → q[i]? = some (a : Int) → ∀ b, b < n → 0 < ent m a b → L b = true
theorem bfs_start (m : List (List Int)) {n : Nat} (hn : 0 < n) : Bfs m n [0] 0 (addB (fun _ => false) 0) := by
  refine ⟨addB_new _ _, fun x hx => ?_, fun a ha h => ?_, ?_, fun i a hi => by omega⟩
  · rw [List.mem_singleton] at hx; exact ⟨0, by rw [hx]; rfl, hn, addB_new _ _⟩
  · have : a = 0 := by simpa [addB] using h
    subst this; simp
  · rw [cnt_add rfl hn]
    have : ∀ k, cnt (fun _ => false) k = 0 := by
      intro k; induction k with
      | zero => rfl
      | succ k ih => simp [cnt, ih]
    rw [this]; rfl
theorem bfs_add {m : List (List Int)} {n k b : Nat} {q : List Int} {L : Nat → Bool} (h : Bfs m n q k L) (hk : k ≤ q.length) (hb : b < n) (hL : L b = false) : Bfs m n (q ++ [(b : Int)]) k (addB L b) := by
  refine ⟨addB_old h.zero, fun x hx => ?_, fun a ha hl => ?_, ?_, fun i a hi hq c hc he => ?_⟩
  · rcases List.mem_append.1 hx with hx | hx
    · obtain ⟨a, h1, h2, h3⟩ := h.mem x hx; exact ⟨a, h1, h2, addB_old h3⟩
    · rw [List.mem_singleton] at hx; exact ⟨b, hx, hb, addB_new _ _⟩
  · by_cases e : a = b
    · subst e; simp
    · have : L a = true := by simpa [addB, e] using hl
      exact List.mem_append_left _ (h.all a ha this)
  · rw [List.length_append, List.length_singleton, h.len, cnt_add hL hb]
  · rw [List.getElem?_append_left (by omega)] at hq
    exact addB_old (h.done i a hi hq c hc he)
theorem bfs_next {m : List (List Int)} {n k a : Nat} {q : List Int} {L : Nat → Bool} (h : Bfs m n q k L) (hq : q[k]? = some (a : Int)) (hr : ∀ y ∈ lvTo (nz m a) n, L y.toNat = true) : Bfs m n q (k + 1) L := by
  refine ⟨h.zero, h.mem, h.all, h.len, fun i c hi hc b hb he => ?_⟩
  by_cases e : i = k
  · subst e
    rw [hq] at hc
    have ec : c = a := by have := Option.some.inj hc; omega
    subst ec
    have := hr b (lvTo_mem.2 ⟨hb, decide_eq_true he⟩)
    rwa [Int.toNat_natCast] at this
  · exact h.done i c (by omega) hc b hb he
theorem lvTo_bd2 (L : Nat → Bool) : ∀ k, ∀ x ∈ lvTo L k, 0 ≤ x ∧ x < k := by
  intro k
  induction k with
  | zero => intro x hx; simp [lvTo] at hx
  | succ k ih =>
    intro x hx
    rw [lvTo, List.mem_append] at hx
    rcases hx with hx | hx
    · have := ih x hx; omega
    · split at hx
      · rw [List.mem_singleton] at hx; omega
      · cases hx
theorem bfs_end {m : List (List Int)} {n : Nat} {p : Int} (I : Irred m n p) {q : List Int} {L : Nat → Bool} (h : Bfs m n q q.length L) : ∀ j, j < n → L j = true := by
  refine closed_all I h.zero fun a b ha hb hL he => ?_
  obtain ⟨i, hi, e⟩ := List.mem_iff_getElem.1 (h.all a ha hL)
  exact h.done i a hi (by rw [← e]; exact List.getElem?_eq_getElem hi) b hb he
theorem bfs_len {m : List (List Int)} {n k : Nat} {q : List Int} {L : Nat → Bool} (h : Bfs m n q k L) : q.length ≤ n := by rw [h.len]; exact cnt_top _ _
theorem knw0_none (T : Nat → Int) (n : Nat) (h : T 0 = 0) : rowF n (knw0 T (addB (fun _ => false) 0)) = rowF n fun _ => 0 := rowF_congr fun j _ => by
  by_cases e : j = 0
  · subst e; simp [knw0, addB, h]
  · simp [knw0, addB, e]
theorem bls_add (n b : Nat) (L : Nat → Bool) : (bls n L).set b (.bool true) = bls n (addB L b) := by
  rw [bls_set]
  refine bls_congr fun j _ => ?_
  unfold addB
  by_cases e : j = b
  · simp [e]
  · simp [e]
/-- What was seen of a row. -/
def Seen (L : Nat → Bool) (r : List Int) (s : Nat) : Prop := ∀ y ∈ r.take s, L y.toNat = true
theorem seen_zero (L : Nat → Bool) (r : List Int) : Seen L r 0 := fun y hy => by cases hy
theorem seen_step {L L' : Nat → Bool} {r : List Int} {s b : Nat} (h : Seen L r s) (hs : ∀ j, L j = true → L' j = true) (hr : r[s]? = some (b : Int)) (hb : L' b = true) : Seen L' r (s + 1) := by
  intro y hy
  rw [take_snoc hr, List.mem_append] at hy
  rcases hy with hy | hy
  · exact hs _ (h y hy)
  · rw [List.mem_singleton] at hy; subst hy; rw [Int.toNat_natCast]; exact hb
theorem Own.single (ti : TypeId) (w : World) (x : Int) : Own ti w.heap.size (w.alloc (.cells #[.int .i64 x] ti)) (.slice (some ⟨w.heap.size, 0, none⟩) 1 1) (ints [x]) :=
  World.ownsRow_lit w #[.int .i64 x] 1 (Nat.le_refl _) (by simp [maxLen]) rfl
/-- The memory of the search: the list of lengths, the marks, the queue, the lists of next vertices, and the one of these that is being gone through. -/
structure St (tr ti tb : TypeId) (b0 bs z H n : Nat) (T : Nat → Int) (nv : Value) (NX : List (List Int)) (wr : World) (qv ru : Value) (r : List Int) (Lo Ls : Nat → Bool) (q : List Int) : Prop where
  t1 : ti ≠ tb
  bl : b0 < bs ∧ bs < z
  out : Own ti b0 wr (.slice (some ⟨b0, 0, none⟩) n n) (ints (rowF n (knw0 T Lo)))
  seen : Own tb b0 wr (.slice (some ⟨bs, 0, none⟩) n n) (bls n Ls)
  que : Own ti b0 wr qv (ints q)
  nxt : OwnMatH tr ti z H wr nv NX
  row : Own ti z wr ru (ints r)
  rowH : ∀ k, ru.ownBlock = some k → k < H
  far : Out b0 (b0 + 1) qv
  fan : Out z H qv
  top : H ≤ wr.heap.size
section
variable {tr ti tb : TypeId} {b0 bs z H n : Nat} {T : Nat → Int} {nv : Value} {NX : List (List Int)} {wr w' : World} {qv q' ru : Value} {r : List Int} {Lo Ls : Nat → Bool} {q : List Int} {j : Nat}
theorem St.setSeen (h : St tr ti tb b0 bs z H n T nv NX wr qv ru r Lo Ls q) (hj : j < n) : wr.cell? ⟨bs, j, none⟩ = some (.bool (Ls j)) ∧ wr.frozen? ⟨bs, j, none⟩ = false ∧
    St tr ti tb b0 bs z H n T nv NX (wr.setCell ⟨bs, j, none⟩ (.bool true)) qv ru r Lo (addB Ls j) q := by
  obtain ⟨g, c, hv, -, hc, hf, hst⟩ := h.seen.at (bls_get (g := Ls) hj)
  rw [bls_length] at hv
  obtain ⟨hv, -⟩ := slice_inj hv
  subst hv
  obtain ⟨h1, hg⟩ := hst (.bool true)
  rw [bls_add] at h1
  have hs : (Value.slice (some ⟨bs, 0, none⟩) n n).ownBlock = some bs := rfl
  have ho : Out z H (Value.slice (some ⟨bs, 0, none⟩) n n) := out_of (.inl h.bl.2)
  refine ⟨hc, hf, h.t1, h.bl, h.out.grown hg (.inr ?_), h1, h.que.grown hg ?_, h.nxt.grownOut (u := .slice (some ⟨bs, 0, none⟩) n n) hg ho, h.row.grownOut h.rowH (u := .slice (some ⟨bs, 0, none⟩) n n) hg ho, h.rowH, h.far, h.fan, by simpa using h.top⟩
  · have := h.bl.1; simp [Value.ownBlock]; omega
  · rw [← hs]; exact h.que.other h.seen h.t1
theorem St.getOut (h : St tr ti tb b0 bs z H n T nv NX wr qv ru r Lo Ls q) (hj : j < n) : wr.cell? ⟨b0, j, none⟩ = some (.int .i64 (knw0 T Lo j)) ∧ wr.frozen? ⟨b0, j, none⟩ = false := by
  obtain ⟨g, c, hv, -, hc, hf, -⟩ := h.out.at (show (ints (rowF n (knw0 T Lo)))[j]? = some (.int .i64 (knw0 T Lo j)) by rw [ints_get?, rowF_get hj]; rfl)
  rw [ints_length, rowF_length] at hv
  obtain ⟨hv, -⟩ := slice_inj hv
  subst hv
  exact ⟨hc, hf⟩
theorem St.setOut (h : St tr ti tb b0 bs z H n T nv NX wr qv ru r Lo Ls q) (hj : j < n) : St tr ti tb b0 bs z H n T nv NX (wr.setCell ⟨b0, j, none⟩ (.int .i64 (T j))) qv ru r (addB Lo j) Ls q := by
  obtain ⟨g, c, hv, -, -, -, hst⟩ := h.out.at (show (ints (rowF n (knw0 T Lo)))[j]? = some (.int .i64 (knw0 T Lo j)) by rw [ints_get?, rowF_get hj]; rfl)
  rw [ints_length, rowF_length] at hv
  obtain ⟨hv, -⟩ := slice_inj hv
  subst hv
  obtain ⟨h1, hg⟩ := hst (.int .i64 (T j))
  rw [knw0_set] at h1
  have ho : Out z H (Value.slice (some ⟨b0, 0, none⟩) n n) := out_of (.inl (by have := h.bl; omega))
  refine ⟨h.t1, h.bl, h1, h.seen.grown hg (.inr ?_), h.que.grown hg ?_, h.nxt.grownOut (u := .slice (some ⟨b0, 0, none⟩) n n) hg ho, h.row.grownOut h.rowH (u := .slice (some ⟨b0, 0, none⟩) n n) hg ho, h.rowH, h.far, h.fan, by simpa using h.top⟩
  · have := h.bl.1; simp [Value.ownBlock]; omega
  · cases e : qv.ownBlock with
    | none => exact .inl rfl
    | some k =>
      refine .inr fun e2 => ?_
      have e3 : k = b0 := by simpa using e2
      have := h.far k e
      omega
theorem St.app (h : St tr ti tb b0 bs z H n T nv NX wr qv ru r Lo Ls q) {x : Int} (h1 : Own ti b0 w' q' (ints (q ++ [x]))) (hg : wr.grownBy w' qv.ownBlock) (hsz : wr.heap.size + 1 ≤ w'.heap.size)
    (hb : q'.ownBlock = qv.ownBlock ∨ q'.ownBlock = some (wr.heap.size + 1)) : St tr ti tb b0 bs z H n T nv NX w' q' ru r Lo Ls (q ++ [x]) := by
  have htop := h.top
  have hz := (h.out.lt b0 rfl).2
  refine ⟨h.t1, h.bl, h.out.grown hg ?_, h.seen.grown hg (h.seen.other h.que (Ne.symm h.t1)), h1, h.nxt.grownOut hg h.fan, h.row.grownOut h.rowH hg h.fan, h.rowH, h.far.next hb (by omega), h.fan.next hb (by omega), by omega⟩
  refine .inr fun e => ?_
  have := h.far b0 e.symm
  omega
theorem St.setRow (h : St tr ti tb b0 bs z H n T nv NX wr qv ru r Lo Ls q) {ru' : Value} {r' : List Int} (h1 : Own ti z wr ru' (ints r')) (h2 : ∀ k, ru'.ownBlock = some k → k < H) : St tr ti tb b0 bs z H n T nv NX wr qv ru' r' Lo Ls q :=
  ⟨h.t1, h.bl, h.out, h.seen, h.que, h.nxt, h1, h2, h.far, h.fan, h.top⟩
end
set_option maxRecDepth 10000 in
set_option maxHeartbeats 1200000 in
theorem iTurnsOf (v : Value) (m : List (List Int)) (w : World) (h : Mat w v m) :
    Calls Try.prog 33 #[v] w fun e w' => ∃ v', e = .returned v' ∧ OwnI 3 w.heap.size w' v' (turnsOf m) ∧ Below w.heap.size w w' := by
  cases hi : irr m
  · have HO := Lib.hid (turnsOf_no hi)
    have HI := Lib.hid hi; clear hi
    go_enter Try.func33, Try.ntmps33
    go_wp2_with fail
    refine (iIsIrreducible _ m _ h).mono ?_
    rintro e w1 ⟨rfl, hb⟩
    rw [HI.out]
    go_wp2
    go_ret
    exact ⟨_, rfl, by rw [HO.out]; exact Own.nil _ _ _, hb⟩
  obtain ⟨av, n, cv, rfl, HL, hn, -⟩ := h.open
  have hm : isMat m = true := irr_mat hi
  have n9 : n ≤ 9 := by have := (isMat_len hm).2; have := HL.out; omega
  have n1 : 0 < n := by have := (isMat_len hm).1; have := HL.out; omega
  have hI := irred hi HL.out
  have p0 := hI.p0
  have pn := hI.pn
  have HO := Lib.hid (turnsOf_yes hi HL.out)
  have HI := Lib.hid hi; clear hi
  have HM := Lib.hid hm; clear hm
  have HT0 := Lib.hid (turn_zero hI)
  have HTB := Lib.hid fun j => turn_bd hI j
  have HIR := Lib.hid hI; clear hI
  have HTS : Hid (∀ i j, i < n → j < n → 0 < ent m i j → (trn m n (periodOf m) i + 1) % periodOf m = trn m n (periodOf m) j) := Lib.hid fun i j h1 h2 h3 => turn_step HIR.out h1 h2 h3
  obtain ⟨T, hT⟩ : ∃ T, T = trn m n (periodOf m) := ⟨_, rfl⟩
  rw [← hT] at HT0 HTS HO
  have HTB2 : Hid (∀ j, 0 ≤ T j ∧ T j < periodOf m) := Lib.hid fun j => by rw [hT]; exact HTB.out j
  clear HTB hT
  obtain ⟨p, hp⟩ : ∃ p, p = periodOf m := ⟨_, rfl⟩
  rw [← hp] at p0 pn HTS HTB2
  have HP := Lib.hid hp; clear hp
  go_enter Try.func33, Try.ntmps33
  go_wp2_with fail
  refine (iIsIrreducible _ m _ h).mono ?_
  rintro e w1 ⟨rfl, hb1⟩
  rw [HI.out]
  go_wp2_with fail
  refine (iPeriodOf _ m _ (h.keep hb1)).mono ?_
  rintro e w2 ⟨rfl, hb2⟩
  rw [← HP.out]
  have hwc := hb1.trans (hb2.mono hb1.size)
  clear hb1 hb2
  have e1 := run_make_row' (P := Try.prog) 28 3 (.int .i64 0) 8 Try.underlying28 Try.infoInt rfl .i64 .i64 n (by omega) (by omega) w2
  have e2 := run_make_row' (P := Try.prog) 51 4 (.bool false) 1 Try.underlying51 Try.infoBool rfl .i64 .i64 n (by omega) (by omega) (w2.alloc (.cells (madeCells #[.int .i64 0] n) 3))
  have G1 := below_alloc w2 (.cells (madeCells #[.int .i64 0] n) 3)
  have G2 := below_alloc (w2.alloc (.cells (madeCells #[.int .i64 0] n) 3)) (.cells (madeCells #[.bool false] n) 4)
  have F1 := (Own.zeros 3 w2 n (by omega)).keep G2
  have F2 := Own.falses 4 (w2.alloc (.cells (madeCells #[.int .i64 0] n) 3)) n (by omega)
  have G := G1.trans (G2.mono (by simp))
  have z4 : ((w2.alloc (.cells (madeCells #[.int .i64 0] n) 3)).alloc (.cells (madeCells #[.bool false] n) 4)).heap.size = w2.heap.size + 2 := by simp
  have zs : (w2.alloc (.cells (madeCells #[.int .i64 0] n) 3)).heap.size = w2.heap.size + 1 := by simp
  obtain ⟨w4, hw4⟩ : ∃ w4, (w2.alloc (.cells (madeCells #[.int .i64 0] n) 3)).alloc (.cells (madeCells #[.bool false] n) 4) = w4 := ⟨_, rfl⟩
  rw [hw4] at e2 F1 F2 G z4
  obtain ⟨w3, hw3⟩ : ∃ w3, w2.alloc (.cells (madeCells #[.int .i64 0] n) 3) = w3 := ⟨_, rfl⟩
  rw [hw3] at e1 e2 F2 zs
  clear hw4 hw3 G1 G2
  obtain ⟨bs, hbs⟩ : ∃ bs, w3.heap.size = bs := ⟨_, rfl⟩
  rw [hbs] at e2 F2 zs
  clear hbs
  have hB0 := hwc.size
  obtain ⟨b0, hb0⟩ : ∃ b0, w2.heap.size = b0 := ⟨_, rfl⟩
  rw [hb0] at e1 F1 zs z4 hB0
  have hG := hwc.trans (G.mono (by omega))
  have zs1 : b0 < bs := by omega
  have zs2 : bs < b0 + 2 := by omega
  have z5 : b0 + 2 ≤ w4.heap.size := by omega
  clear G hwc hb0 zs z4
  obtain ⟨gs, cs, hvs, -, hcs, hfs, hss⟩ := F2.at (bls_get (g := fun _ => false) n1)
  rw [bls_length] at hvs
  obtain ⟨hvs1, -⟩ := slice_inj hvs
  clear hvs
  rw [← hvs1] at hcs hfs hss
  clear hvs1
  obtain ⟨S0, S1⟩ := hss (.bool true)
  rw [bls_add] at S0
  have O0 := F1.grown S1 (.inr (by simp [Value.ownBlock]; omega))
  rw [← knw0_none T n HT0.out] at O0
  have A0 := below_alloc (w4.setCell ⟨bs, 0, none⟩ (.bool true)) (.cells #[.int .i64 0] 3)
  have hG2 : Below w.heap.size w ((w4.setCell ⟨bs, 0, none⟩ (.bool true)).alloc (.cells #[.int .i64 0] 3)) := (hG.setCell (p := ⟨bs, 0, none⟩) (by show w.heap.size ≤ bs; omega) _).trans (A0.mono (by simp; omega))
  have Q0 := Own.single 3 (w4.setCell ⟨bs, 0, none⟩ (.bool true)) 0
  have S2 := S0.keep A0
  have O2 := O0.keep A0
  clear S0 O0 A0 F1 F2 S1 hss
  go_wp2_with (go_at_call 56; refine (inextOf _ m _ (h.keep hG2) HM.out n HL.out).mono ?_; rintro e w5 ⟨v5, rfl, hnx, hb5⟩)
  have S3 := S2.keep hb5
  have O3 := O2.keep hb5
  have Q3 := Q0.keep hb5
  have hN3 := hnx.toH
  have hb6 := hG2.trans (hb5.mono hG2.size)
  have zH := hb5.size
  simp only [World.size_alloc, World.size_setCell] at zH hN3 Q3 
  clear S2 O2 Q0 hb5 hG2 hcs hfs e1 e2 hG
  obtain ⟨bq, hbq⟩ : ∃ bq, w4.heap.size = bq := ⟨_, rfl⟩
  rw [hbq] at zH hN3 Q3 z5 ⊢
  clear hbq
  have hst0 : St 28 3 4 b0 bs (bq + 1) w5.heap.size n T v5 (nxTo (nz m) n n) w5 (.slice (some ⟨bq, 0, none⟩) 1 1) (.slice none 0 0) [] (addB (fun _ => false) 0) (addB (fun _ => false) 0) [0] :=
    ⟨by decide, ⟨zs1, by omega⟩, O3, S3.mono (by omega), Q3.mono (by omega), hN3, Own.nil _ _ _, fun k hk => (by cases hk), out_of (.inr (by omega)), out_of (.inl (by omega)), Nat.le_refl _⟩
  obtain ⟨av5, cv5, hv5⟩ := hN3.toM.form
  rw [nxTo_length] at hv5
  subst hv5
  obtain ⟨H, hH⟩ : ∃ H, w5.heap.size = H := ⟨_, rfl⟩
  rw [hH] at hst0
  clear hN3 S3 O3 Q3 zH hH
  obtain ⟨z, hz⟩ : ∃ z, bq + 1 = z := ⟨_, rfl⟩
  rw [hz] at hst0
  clear hz
  have hbf0 := bfs_start m n1
  go_wp2
  go_loopw [6, 8] (fun qv i wr => ∃ (k : Nat) (L : Nat → Bool) (q : List Int), k ≤ q.length ∧ i = .int .i64 k ∧ Hid (St 28 3 4 b0 bs z H n T (.slice av5 n cv5) (nxTo (nz m) n n) wr qv (.slice none 0 0) [] L L q) ∧ Hid (Bfs m n q k L) ∧ Below w.heap.size w wr) (fun _ i _ => n - (intOf i).toNat)
  case atStart => exact ⟨0, _, [0], Nat.zero_le _, rfl, Lib.hid hst0, Lib.hid hbf0, hb6⟩
  case round =>
    clear hst0 hbf0 hb6
    obtain ⟨k, L, q, hk, rfl, HS, HB, hb⟩ := hrel
    have hqn := bfs_len HB.out
    obtain ⟨nq, hnq⟩ : ∃ nq, q.length = nq := ⟨_, rfl⟩
    rw [hnq] at hk hqn
    obtain ⟨aq, cq, hqf⟩ := HS.out.que.form (show (ints q).length = nq by rw [ints_length]; exact hnq)
    subst hqf
    have HQ := Lib.hid hnq; clear hnq
    by_cases hlt : k < nq
    · have hkl : k < q.length := by rw [HQ.out]; exact hlt
      obtain ⟨i, hi1, hi2, hi3⟩ := HB.out.mem _ (List.getElem_mem hkl)
      have HQK : Hid (q[k]? = some (i : Int)) := Lib.hid (by rw [List.getElem?_eq_getElem hkl, hi1])
      obtain ⟨gq, cq', hqv, -, hcq, -, -⟩ := HS.out.que.at (show (ints q)[k]? = some (.int .i64 i) by rw [ints_get?, HQK.out]; rfl)
      rw [ints_length, HQ.out] at hqv
      obtain ⟨rfl, -⟩ := slice_inj1 hqv
      have HLi := Lib.hid hi3
      clear hqv hi1 hi3 hkl
      have hNR : (nxTo (nz m) n n)[i]? = some (lvTo (nz m i) n) := by simp [nxTo, hi2]
      obtain ⟨gn, cn, u, hvn, hcn, hu, huH, -⟩ := HS.out.nxt.row hNR
      rw [nxTo_length] at hvn
      obtain ⟨rfl, rfl⟩ := slice_inj1 hvn
      clear hvn
      obtain ⟨R, hR⟩ : ∃ R, lvTo (nz m i) n = R := ⟨_, rfl⟩
      rw [hR] at hu
      have hRn : R.length ≤ n := by rw [← hR]; exact lvTo_len _ _
      have HRB : Hid (∀ y ∈ R, ∃ b : Nat, y = b ∧ b < n ∧ 0 < ent m i b) := Lib.hid fun y hy => by
        rw [← hR] at hy
        have hbd := lvTo_bd2 (nz m i) n y hy
        obtain ⟨b, rfl⟩ : ∃ b : Nat, y = b := ⟨y.toNat, by omega⟩
        exact ⟨b, rfl, by omega, of_decide_eq_true (lvTo_mem.1 hy).2⟩
      have HR := Lib.hid hR; clear hR hNR
      obtain ⟨nr, hnr⟩ : ∃ nr, R.length = nr := ⟨_, rfl⟩
      rw [hnr] at hRn
      obtain ⟨au, cu, huf⟩ := hu.form (show (ints R).length = nr by rw [ints_length]; exact hnr)
      subst huf
      have HNR := Lib.hid hnr; clear hnr
      have HS1 := Lib.hid (HS.out.setRow hu huH)
      clear HS hu huH
      go_wp2
      go_loopw [6, 43] (fun qv s wr => ∃ (s' : Nat) (L : Nat → Bool) (q : List Int), s' ≤ nr ∧ s = .int .i64 s' ∧ k < q.length ∧ Hid (q[k]? = some (i : Int)) ∧ Hid (St 28 3 4 b0 bs z H n T (.slice (some ⟨gn, 0, none⟩) n cn) (nxTo (nz m) n n) wr qv (.slice au nr cu) R L L q) ∧ Hid (Bfs m n q k L) ∧ Hid (Seen L R s') ∧ Hid (L i = true) ∧ Below w.heap.size w wr) (fun _ s _ => nr - (intOf s).toNat)
      case atStart => exact ⟨0, L, q, Nat.zero_le _, rfl, by rw [HQ.out]; exact hlt, HQK, HS1, HB, Lib.hid (seen_zero L R), HLi, hb⟩
      case round =>
        clear HS1 HB HLi HQK hcq hcn hb HQ hqn hk hlt
        obtain ⟨s, L, q, hs, rfl, hkq, HQK, HS, HB, HSN, HLi, hb⟩ := hrel
        by_cases hlts : s < nr
        · have hsl : s < R.length := by rw [HNR.out]; exact hlts
          obtain ⟨b, hb1, hb2, hb3⟩ := HRB.out _ (List.getElem_mem hsl)
          have HRS : Hid (R[s]? = some (b : Int)) := Lib.hid (by rw [List.getElem?_eq_getElem hsl, hb1])
          obtain ⟨gr, cr, hrv, -, hcr, -, -⟩ := HS.out.row.at (show (ints R)[s]? = some (.int .i64 b) by rw [ints_get?, HRS.out]; rfl)
          rw [ints_length, HNR.out] at hrv
          obtain ⟨rfl, -⟩ := slice_inj1 hrv
          clear hrv hb1 hsl
          obtain ⟨hcs, hfs, hST1⟩ := HS.out.setSeen hb2
          cases hLb : L b
          · rw [hLb] at hcs
            obtain ⟨hco, hfo⟩ := hST1.getOut hi2
            obtain ⟨hcp, hfp⟩ := hST1.getOut hb2
            rw [knw0_t HLi.out] at hco
            have HE := Lib.hid (HTS.out i b hi2 hb2 hb3)
            have tb := HTB2.out i
            have hST2 := hST1.setOut hb2
            obtain ⟨x, hx⟩ : ∃ x, T i = x := ⟨_, rfl⟩
            rw [hx] at hco HE tb
            obtain ⟨y, hy⟩ : ∃ y, T b = y := ⟨_, rfl⟩
            rw [hy] at HE hST2
            obtain ⟨y0, hy0⟩ : ∃ y0, knw0 T L b = y0 := ⟨_, rfl⟩
            rw [hy0] at hcp
            clear hx hy hy0 hST1
            have x0 := tb.1
            have x1 := tb.2
            clear tb hb3
            rw [← HE.out] at hST2
            have HB2 := Lib.hid (bfs_add HB.out (by omega) hb2 hLb)
            have HSN2 := Lib.hid (seen_step HSN.out (fun _ h => addB_old h) HRS.out (addB_new L b))
            have hz := hST2.bl
            have hbw := hST2.top
            have hB0' := hST2.out.lt b0 rfl
            have HQK2 : Hid ((q ++ [(b : Int)])[k]? = some (i : Int)) := Lib.hid (by rw [List.getElem?_append_left hkq]; exact HQK.out)
            have hqn := bfs_len HB.out
            have hkq2 : k < (q ++ [(b : Int)]).length := by rw [List.length_append]; omega
            have HLi2 := Lib.hid (addB_old (b := b) HLi.out)
            have hbb := (hb.setCell (p := ⟨bs, b, none⟩) (by show w.heap.size ≤ bs; omega) (.bool true)).setCell (p := ⟨b0, b, none⟩) (by show w.heap.size ≤ b0; omega) (.int .i64 ((x + 1) % p))
            clear hLb
            go_wp2_with (at_builtin; refine app1b 28 3 8 (.int .i64 0) Try.underlying28 Try.infoInt rfl hST2.que (.int .i64 b) rfl ?h1 ?h2 (by omega) rfl _ _ rfl rfl rfl (by simp) ?_)
            case h1 => rw [ints_length]; unfold maxLen; omega
            case h2 => rw [ints_length]; omega
            intro q' w8 hq8 hg8 hsz8 hbl8
            have hq9 : Own 3 b0 w8 q' (ints (q ++ [(b : Int)])) := by have h8 := hq8; simp only [ints, List.map_append, List.map_cons, List.map_nil] at h8 ⊢; exact h8
            have HS2 := Lib.hid (hST2.app hq9 hg8 (by simpa using hsz8) (by simpa using hbl8))
            have hb8 := hbb.trans (hST2.que.below hg8 hB0 (by omega))
            clear hq8 hq9 hST2 hg8 hbl8 hbb hbw
            go_wp2
            go_roundw
            case rel => exact ⟨s + 1, _, _, by omega, by go_num, hkq2, HQK2, HS2, HB2, HSN2, HLi2, hb8⟩
            case measure => simp [intOf]; omega
          · rw [hLb] at hcs
            have HSN2 := Lib.hid (seen_step HSN.out (fun _ h => h) HRS.out hLb)
            clear hLb hST1
            go_wp2
            go_roundw
            case rel => exact ⟨s + 1, L, q, by omega, by go_num, hkq, HQK, HS, HB, HSN2, HLi, hb⟩
            case measure => simp [intOf]; omega
        · have e : s = nr := by omega
          subst e
          have hqn := bfs_len HB.out
          have HB2 := Lib.hid (bfs_next HB.out HQK.out (by
            rw [HR.out]
            have h9 := HSN.out
            unfold Seen at h9
            rwa [← HNR.out, List.take_length] at h9))
          have HS2 := Lib.hid (HS.out.setRow (Own.nil _ _ _) (ru' := .slice none 0 0) (r' := []) fun k hk => (by cases hk))
          go_wp2
          go_roundw
          case rel => exact ⟨k + 1, L, q, by omega, by go_num, HS2, HB2, hb⟩
          case measure => simp [intOf]; have := bfs_len HB.out; omega
    · have e : nq = k := by omega
      subst e
      have HA := Lib.hid (knw0_all (T := T) (bfs_end HIR.out (by rw [HQ.out]; exact HB.out)))
      have ho := HS.out.out
      go_wp2
      go_ret
      exact ⟨_, rfl, by rw [HO.out, ← HA.out]; exact ho.mono hB0, hb⟩
end Go.Proofs.Ytenjakgahniijaa
