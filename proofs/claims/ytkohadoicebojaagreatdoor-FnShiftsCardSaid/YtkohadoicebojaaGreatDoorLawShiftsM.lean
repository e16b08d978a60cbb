/- FnShifts returns true for every input and leaves its argument as it was. No conditions. -/
import Derived.Test.YtkohadoicebojaaGreatDoorMgD
import Derived.Test.YtkohadoicebojaaGreatDoorMgC
import Derived.Test.YtkohadoicebojaaGreatDoorMgB
import Derived.Test.YtkohadoicebojaaGreatDoorMgA
namespace Go.Proofs.YtkohadoicebojaaGreatDoor
open Go.RowKit Go.Deep Go.ChangeShapes Go.WideShapes Go.ChangeAt
theorem ev_of_laid4 {W : World} {d1 d2 d3 d4 e1 e2 : DataW Unit} {n1 n2 n3 n4 s1 s2 : String} {rest : List (String × DataW Unit)} (h : laidMet Tryz.prog ((n1, d1) :: (n2, d2) :: (n3, d3) :: (n4, d4) :: ("strconv.ErrRange", .iface s1 e1) :: ("strconv.ErrSyntax", .iface s2 e2) :: rest) W) : Ev W := by
  obtain ⟨ps, ⟨g0, t0, cs0, f0, p0, q0, _, _, _, _, ⟨g1, t1, cs1, f1, p1, q1, _, _, _, _, ⟨g2, t2, cs2, f2, p2, q2, _, _, _, _, ⟨g3, t3, cs3, f3, p3, q3, _, _, _, _, ⟨g, t, cs, fuel, p, q, hg, ht, hv, hd, ⟨g', t', cs', fuel', p', q', hg', ht', hv', hd', _⟩, _⟩, _⟩, _⟩, _⟩, _⟩, _⟩ := h
  obtain rfl := Option.some.inj (gRng.symm.trans hg)
  obtain rfl := Option.some.inj (gSyn.symm.trans hg')
  obtain rfl := Option.some.inj ((show (Tryz.prog.globals[4]?).map (·.type) = some 105 by kernel_rfl).symm.trans ht)
  obtain rfl := Option.some.inj ((show (Tryz.prog.globals[3]?).map (·.type) = some 105 by kernel_rfl).symm.trans ht')
  obtain ⟨_, u, v, hcs, _⟩ := iface_of_trod Tryz.underlying105 hd
  obtain ⟨_, u', v', hcs', _⟩ := iface_of_trod Tryz.underlying105 hd'
  refine ⟨⟨u', v', ?_⟩, ⟨u, v, ?_⟩⟩
  · have := World.var?_cell hg' hv' 0
    rw [arr_one hcs'] at this
    simpa using this
  · have := World.var?_cell hg hv 0
    rw [arr_one hcs] at this
    simpa using this
theorem ownX_form {te : TypeId} {B : Nat} {w : World} {v : Value} {l : List ByteArray} (h : OwnX te B w v l) : ∃ a cap, v = .slice a l.length cap := by
  rcases h with h | ⟨g, o, p, cap, rfl, h0, h2⟩
  · exact h.form (strs_length l)
  · exact ⟨_, _, rfl⟩
theorem Sh.keep {b : Nat} {w w' : World} {c : Int} {v : Value} (h : Sh b w c v) (hb : Below w.heap.size w w') : Sh b w' c v := h.below hb h.lt
/-- Whether one of the first letters continues a word. -/
def moreB (k : Int) (f : List ByteArray) (x : ByteArray) (y : Nat) : Bool := (List.range y).any fun t => inLang k f (x ++ str [ltr t])
theorem moreB_succ (k : Int) (f : List ByteArray) (x : ByteArray) (y : Nat) : moreB k f x (y + 1) = (moreB k f x y || inLang k f (x ++ str [ltr y])) := by
  unfold moreB; rw [List.range_succ, List.any_append]; simp
theorem moreB_yes {k : Int} {f : List ByteArray} {x : ByteArray} {y c : Nat} (hc : c < y) (h : inLang k f (x ++ str [ltr c]) = true) : moreB k f x y = true := by
  unfold moreB; exact List.any_eq_true.2 ⟨c, List.mem_range.2 hc, h⟩
theorem langL_len0 {n : Nat} {b : Bool} (h : decide (n = 0) = b) : (((n : Int) == 0) == b) = true := by
  subst h
  by_cases e : n = 0
  · subst e; simp
  · rw [decide_eq_false e, beq_eq_false_iff_ne.2 (show (n : Int) ≠ 0 by omega)]; rfl
set_option maxRecDepth 10000 in
set_option maxHeartbeats 3200000 in
theorem lawShifts (w : World) (hsh : w.ShapedOpen Tryz.prog) (hl : laidMetH Tryz.prog Rows.fnShiftsRow.laid w) (v : Value) (l : List UInt8) (hv : BytesV w v l) :
    Calls Tryz.prog 4 #[v] w fun e w' => e = .returned (.bool true) ∧ Below w.heap.size w w' := by
  rw [MakeChecks.laidMetH_plain _ _ _ (by kernel_rfl)] at hl
  have hTb : Tb w := tb_of_laid hl
  have hEv : Ev w := ev_of_laid4 hl
  have hMl : Ml w := Tryz.laysM146.s1_3 w hsh
  clear hl hsh
  by_cases hbig : 1048576 < (l.length : Int)
  · have hd : decide (1048576 < (l.length : Int)) = true := decide_eq_true hbig
    go_enter Tryz.func4, Tryz.ntmps4
    go_wp2_with fail
    refine (bigC v l _ hv).mono ?_
    rintro e w1 ⟨rfl, rfl⟩
    rw [hd]
    go_wp2
    go_ret
    exact ⟨rfl, Below.refl _ _⟩
  have hd : decide (1048576 < (l.length : Int)) = false := decide_eq_false hbig
  clear hbig
  go_enter Tryz.func4, Tryz.ntmps4
  go_wp2_with fail
  refine (bigC v l _ hv).mono ?_
  rintro e w1 ⟨rfl, rfl⟩
  rw [hd]
  clear hd
  go_wp2_with fail
  refine (dLang v l _ hv).mono ?_
  rintro e w2 ⟨c1, v1, L1, x1, rfl, ok1, ho1, hb2⟩
  replace hv := bytesKeep hv hb2
  replace hTb := hTb.keep hb2
  replace hEv := hEv.keep hb2
  replace hMl := hMl.keep hb2
  have b2 : Below w.heap.size w _ := hb2
  clear hb2
  obtain ⟨a1, m1, hf1⟩ := ho1.form rfl
  subst hf1
  have hs1 := OwnS.strs (show OwnS _ _ _ _ L1 from ho1)
  clear ho1
  rw [strs_length] at hs1 ⊢
  obtain ⟨n1, hn1⟩ : ∃ k, L1.length = k := ⟨_, rfl⟩
  rw [hn1] at hs1 ⊢
  clear hn1
  have hX := below_alloc w2 (.cells #[.int .i64 c1, .slice a1 n1 m1] 41)
  have hS1 := Sh.new w2 41 c1 (.slice a1 n1 m1)
  replace hv := bytesKeep hv hX
  replace hTb := hTb.keep hX
  replace hEv := hEv.keep hX
  replace hMl := hMl.keep hX
  replace hs1 := hs1.keep hX
  have b3 : Below w.heap.size w _ := b2.trans (hX.mono b2.size)
  clear hX b2
  have HZ1 : Hid (∀ x ∈ L1, x.size ≤ 1048576) := Lib.hid fun x hx => Nat.le_trans (ok1.2.2.2 x hx) (by omega)
  go_wp2_with fail
  refine (iLanguageOf c1 _ L1 x1 _ hMl hs1 HZ1.out).mono ?_
  rintro e w4 ⟨v2, rfl, (ho2 : OwnS _ _ _ _ _), hb4⟩
  replace hv := bytesKeep hv hb4
  replace hTb := hTb.keep hb4
  replace hEv := hEv.keep hb4
  replace hMl := hMl.keep hb4
  replace hs1 := hs1.keep hb4
  replace hS1 := hS1.keep hb4
  have b4 := b3.trans (hb4.mono b3.size)
  clear hb4 b3
  have hl := OwnS.strs ho2
  obtain ⟨a2, m2, rfl⟩ := Own.form ho2 rfl
  clear ho2
  rw [strs_length] at *
  obtain ⟨n2, hn2⟩ : ∃ k, (langL c1 L1 x1).length = k := ⟨_, rfl⟩
  rw [hn2] at hl ⊢
  clear hn2
  go_wp2_with fail
  refine (dAvw v l _ hv).mono ?_
  rintro e w5 ⟨c3, v3, L3, x3, rfl, ok3, ho3, hb5⟩
  replace hv := bytesKeep hv hb5
  replace hTb := hTb.keep hb5
  replace hEv := hEv.keep hb5
  replace hMl := hMl.keep hb5
  replace hs1 := hs1.keep hb5
  replace hS1 := hS1.keep hb5
  replace hl := hl.keep hb5
  have b5 := b4.trans (hb5.mono b4.size)
  clear hb5 b4
  obtain ⟨a3, m3, hf3⟩ := ho3.form rfl
  subst hf3
  have hs3 := OwnS.strs (show OwnS _ _ _ _ L3 from ho3)
  clear ho3
  rw [strs_length] at hs3 ⊢
  obtain ⟨n3, hn3⟩ : ∃ k, L3.length = k := ⟨_, rfl⟩
  rw [hn3] at hs3 ⊢
  clear hn3
  have hX := below_alloc w5 (.cells #[.int .i64 c3, .slice a3 n3 m3] 41)
  have hS3 := Sh.new w5 41 c3 (.slice a3 n3 m3)
  replace hv := bytesKeep hv hX
  replace hTb := hTb.keep hX
  replace hEv := hEv.keep hX
  replace hMl := hMl.keep hX
  replace hs1 := hs1.keep hX
  replace hS1 := hS1.keep hX
  replace hl := hl.keep hX
  replace hs3 := hs3.keep hX
  have b6 : Below w.heap.size w _ := b5.trans (hX.mono b5.size)
  clear hX b5
  have HZ3 : Hid (∀ x ∈ L3, x.size ≤ 1048576) := Lib.hid fun x hx => Nat.le_trans (ok3.2.2.2 x hx) (by omega)
  go_wp2_with fail
  refine (dPShift v l _ hv).mono ?_
  rintro e w7 ⟨t, rfl, htz, hb7⟩
  replace hv := bytesKeep hv hb7
  replace hTb := hTb.keep hb7
  replace hEv := hEv.keep hb7
  replace hMl := hMl.keep hb7
  replace hs1 := hs1.keep hb7
  replace hS1 := hS1.keep hb7
  replace hl := hl.keep hb7
  replace hs3 := hs3.keep hb7
  replace hS3 := hS3.keep hb7
  have b7 := b6.trans (hb7.mono b6.size)
  clear hb7 b6
  go_wp2_with fail
  refine (iParseShift t _ (by omega) hMl hTb hEv).mono ?_
  rintro e w8 ⟨c5, v5, L5, b5, rfl, ho5, HR5, hb8⟩
  replace hv := bytesKeep hv hb8
  replace hTb := hTb.keep hb8
  replace hEv := hEv.keep hb8
  replace hMl := hMl.keep hb8
  replace hs1 := hs1.keep hb8
  replace hS1 := hS1.keep hb8
  replace hl := hl.keep hb8
  replace hs3 := hs3.keep hb8
  replace hS3 := hS3.keep hb8
  have b8 := b7.trans (hb8.mono b7.size)
  clear hb8 b7
  obtain ⟨a5, m5, hf5⟩ := ownX_form ho5
  subst hf5
  have hs5 := OwnX.strs ho5
  clear ho5
  obtain ⟨n5, hn5⟩ : ∃ k, L5.length = k := ⟨_, rfl⟩
  rw [hn5] at hs5 ⊢
  clear hn5
  have hX := below_alloc w8 (.cells #[.int .i64 c5, .slice a5 n5 m5] 41)
  have hS5 := Sh.new w8 41 c5 (.slice a5 n5 m5)
  replace hv := bytesKeep hv hX
  replace hTb := hTb.keep hX
  replace hEv := hEv.keep hX
  replace hMl := hMl.keep hX
  replace hs1 := hs1.keep hX
  replace hS1 := hS1.keep hX
  replace hl := hl.keep hX
  replace hs3 := hs3.keep hX
  replace hS3 := hS3.keep hX
  replace hs5 := hs5.keep hX
  have b9 : Below w.heap.size w _ := b8.trans (hX.mono b8.size)
  clear hX b8
  go_wp2_with fail
  refine (sParseShift t _ (by omega)).mono ?_
  rintro e w10 ⟨c6, v6, L6, b6, rfl, ho6, HR6, hb10⟩
  replace hv := bytesKeep hv hb10
  replace hTb := hTb.keep hb10
  replace hEv := hEv.keep hb10
  replace hMl := hMl.keep hb10
  replace hs1 := hs1.keep hb10
  replace hS1 := hS1.keep hb10
  replace hl := hl.keep hb10
  replace hs3 := hs3.keep hb10
  replace hS3 := hS3.keep hb10
  replace hs5 := hs5.keep hb10
  replace hS5 := hS5.keep hb10
  have b10 := b9.trans (hb10.mono b9.size)
  clear hb10 b9
  obtain ⟨rfl, rfl, rfl⟩ := ShR.eq HR5.out HR6.out
  clear HR5 HR6
  obtain ⟨a6, m6, hf6⟩ := ownX_form ho6
  subst hf6
  have hs6 := OwnX.strs ho6
  clear ho6
  obtain ⟨n6, hn6⟩ : ∃ k, L5.length = k := ⟨_, rfl⟩
  rw [hn6] at hs6 ⊢
  clear hn6
  have hX := below_alloc w10 (.cells #[.int .i64 c5, .slice a6 n6 m6] 41)
  have hS6 := Sh.new w10 41 c5 (.slice a6 n6 m6)
  replace hv := bytesKeep hv hX
  replace hTb := hTb.keep hX
  replace hEv := hEv.keep hX
  replace hMl := hMl.keep hX
  replace hs1 := hs1.keep hX
  replace hS1 := hS1.keep hX
  replace hl := hl.keep hX
  replace hs3 := hs3.keep hX
  replace hS3 := hS3.keep hX
  replace hs5 := hs5.keep hX
  replace hS5 := hS5.keep hX
  replace hs6 := hs6.keep hX
  have b11 : Below w.heap.size w _ := b10.trans (hX.mono b10.size)
  clear hX b10
  go_wp2_with fail
  refine (dInLang v l _ hv).mono ?_
  rintro e w12 ⟨c7, v7, L7, s7, rfl, ok7, hs7z, ho7, hb12⟩
  replace hv := bytesKeep hv hb12
  replace hTb := hTb.keep hb12
  replace hEv := hEv.keep hb12
  replace hMl := hMl.keep hb12
  replace hs1 := hs1.keep hb12
  replace hS1 := hS1.keep hb12
  replace hl := hl.keep hb12
  replace hs3 := hs3.keep hb12
  replace hS3 := hS3.keep hb12
  replace hs5 := hs5.keep hb12
  replace hS5 := hS5.keep hb12
  replace hs6 := hs6.keep hb12
  replace hS6 := hS6.keep hb12
  have b12 := b11.trans (hb12.mono b11.size)
  clear hb12 b11
  obtain ⟨a7, m7, hf7⟩ := ho7.form rfl
  subst hf7
  have hs7 := OwnS.strs (show OwnS _ _ _ _ L7 from ho7)
  clear ho7
  rw [strs_length] at hs7 ⊢
  obtain ⟨n7, hn7⟩ : ∃ k, L7.length = k := ⟨_, rfl⟩
  rw [hn7] at hs7 ⊢
  clear hn7
  have hX := below_alloc w12 (.cells #[.int .i64 c7, .slice a7 n7 m7] 41)
  have hS7 := Sh.new w12 41 c7 (.slice a7 n7 m7)
  replace hv := bytesKeep hv hX
  replace hTb := hTb.keep hX
  replace hEv := hEv.keep hX
  replace hMl := hMl.keep hX
  replace hs1 := hs1.keep hX
  replace hS1 := hS1.keep hX
  replace hl := hl.keep hX
  replace hs3 := hs3.keep hX
  replace hS3 := hS3.keep hX
  replace hs5 := hs5.keep hX
  replace hS5 := hS5.keep hX
  replace hs6 := hs6.keep hX
  replace hS6 := hS6.keep hX
  replace hs7 := hs7.keep hX
  have b13 : Below w.heap.size w _ := b12.trans (hX.mono b12.size)
  clear hX b12
  have HZ7 : Hid (∀ x ∈ L7, x.size ≤ 1048576) := Lib.hid fun x hx => Nat.le_trans (ok7.2.2.2 x hx) (by omega)
  go_wp2_with fail
  refine (dAvoids v l _ hv).mono ?_
  rintro e w14 ⟨c8, v8, L8, s8, rfl, ok8, hs8z, ho8, hb14⟩
  replace hv := bytesKeep hv hb14
  replace hTb := hTb.keep hb14
  replace hEv := hEv.keep hb14
  replace hMl := hMl.keep hb14
  replace hs1 := hs1.keep hb14
  replace hS1 := hS1.keep hb14
  replace hl := hl.keep hb14
  replace hs3 := hs3.keep hb14
  replace hS3 := hS3.keep hb14
  replace hs5 := hs5.keep hb14
  replace hS5 := hS5.keep hb14
  replace hs6 := hs6.keep hb14
  replace hS6 := hS6.keep hb14
  replace hs7 := hs7.keep hb14
  replace hS7 := hS7.keep hb14
  have b14 := b13.trans (hb14.mono b13.size)
  clear hb14 b13
  clear hv
  obtain ⟨a8, m8, hf8⟩ := ho8.form rfl
  subst hf8
  have hs8 := OwnS.strs (show OwnS _ _ _ _ L8 from ho8)
  clear ho8
  rw [strs_length] at hs8 ⊢
  obtain ⟨n8, hn8⟩ : ∃ k, L8.length = k := ⟨_, rfl⟩
  rw [hn8] at hs8 ⊢
  clear hn8
  have hX := below_alloc w14 (.cells #[.int .i64 c8, .slice a8 n8 m8] 41)
  have hS8 := Sh.new w14 41 c8 (.slice a8 n8 m8)
  replace hTb := hTb.keep hX
  replace hEv := hEv.keep hX
  replace hMl := hMl.keep hX
  replace hs1 := hs1.keep hX
  replace hS1 := hS1.keep hX
  replace hl := hl.keep hX
  replace hs3 := hs3.keep hX
  replace hS3 := hS3.keep hX
  replace hs5 := hs5.keep hX
  replace hS5 := hS5.keep hX
  replace hs6 := hs6.keep hX
  replace hS6 := hS6.keep hX
  replace hs7 := hs7.keep hX
  replace hS7 := hS7.keep hX
  replace hs8 := hs8.keep hX
  have b15 : Below w.heap.size w _ := b14.trans (hX.mono b14.size)
  clear hX b14
  have HZ8 : Hid (∀ x ∈ L8, x.size ≤ 1048576) := Lib.hid fun x hx => Nat.le_trans (ok8.2.2.2 x hx) (by omega)
  obtain ⟨WA, hWA⟩ : ∃ W, (w14.alloc (.cells #[.int .i64 c8, .slice a8 n8 m8] 41)) = W := ⟨_, rfl⟩
  rw [hWA] at hTb hEv hMl hs1 hS1 hl hs3 hS3 hs5 hS5 hs6 hS6 hs7 hS7 hs8 hS8 b15
  have hdr : Below WA.heap.size WA WA.drew := (Below.refl _ _).drew
  replace hTb := hTb.keep hdr
  replace hEv := hEv.keep hdr
  replace hMl := hMl.keep hdr
  replace hs1 := hs1.keep hdr
  replace hS1 := hS1.keep hdr
  replace hl := hl.keep hdr
  replace hs3 := hs3.keep hdr
  replace hS3 := hS3.keep hdr
  replace hs5 := hs5.keep hdr
  replace hS5 := hS5.keep hdr
  replace hs6 := hs6.keep hdr
  replace hS6 := hS6.keep hdr
  replace hs7 := hs7.keep hdr
  replace hS7 := hS7.keep hdr
  replace hs8 := hs8.keep hdr
  replace hS8 := hS8.keep hdr
  have bD := b15.trans (hdr.mono b15.size)
  clear hdr b15
  have bb0 : Below WA.drew.heap.size WA.drew WA.drew := Below.refl _ _
  have HMl : Hid (∀ w', Below WA.drew.heap.size WA.drew w' → Ml w') := Lib.hid fun w' h => hMl.keep h
  have HS1 := Lib.hid (fun (w' : World) (h : Below WA.drew.heap.size WA.drew w') => Strs.keep hs1 h)
  have HS3 := Lib.hid (fun (w' : World) (h : Below WA.drew.heap.size WA.drew w') => Strs.keep hs3 h)
  have HS5 := Lib.hid (fun (w' : World) (h : Below WA.drew.heap.size WA.drew w') => Strs.keep hs5 h)
  have HS6 := Lib.hid (fun (w' : World) (h : Below WA.drew.heap.size WA.drew w') => Strs.keep hs6 h)
  have HS7 := Lib.hid (fun (w' : World) (h : Below WA.drew.heap.size WA.drew w') => Strs.keep hs7 h)
  have HS8 := Lib.hid (fun (w' : World) (h : Below WA.drew.heap.size WA.drew w') => Strs.keep hs8 h)
  have HLL := Lib.hid (fun (w' : World) (h : Below WA.drew.heap.size WA.drew w') => Strs.keep hl h)
  have HC := Lib.hid (fun (w' : World) (h : Below WA.drew.heap.size WA.drew w') => And.intro (hS1.keep h).c0 (And.intro (hS1.keep h).c1 (And.intro (hS3.keep h).c0 (And.intro (hS3.keep h).c1 (And.intro (hS5.keep h).c0 (And.intro (hS5.keep h).c1 (And.intro (hS6.keep h).c0 (And.intro (hS6.keep h).c1 (And.intro (hS7.keep h).c0 (And.intro (hS7.keep h).c1 (And.intro (hS8.keep h).c0 (hS8.keep h).c1)))))))))))
  have SK0 := HC.out _ bb0
  have q5 : ∀ b : Bool, (b != b) = false := fun b => by simp
  have qa := q5 b5
  have qb := q5 (inLang c7 L7 s7)
  have qc := q5 (avoidsAll c8 L8 s8)
  have qd := q5 (isEmptyS c1 L1)
  have qe := q5 (isShift c1 L1)
  go_wp2
  try rw [hWA]
  clear hWA
  go_region_held3 (fun w' => w'.cell? ⟨w2.heap.size, 0, none⟩ = some (.int .i64 c1) ∧ w'.cell? ⟨w2.heap.size, 1, none⟩ = some (.slice a1 n1 m1) ∧ w'.cell? ⟨w5.heap.size, 0, none⟩ = some (.int .i64 c3) ∧ w'.cell? ⟨w5.heap.size, 1, none⟩ = some (.slice a3 n3 m3) ∧ w'.cell? ⟨w8.heap.size, 0, none⟩ = some (.int .i64 c5) ∧ w'.cell? ⟨w8.heap.size, 1, none⟩ = some (.slice a5 n5 m5) ∧ w'.cell? ⟨w10.heap.size, 0, none⟩ = some (.int .i64 c5) ∧ w'.cell? ⟨w10.heap.size, 1, none⟩ = some (.slice a6 n6 m6) ∧ w'.cell? ⟨w12.heap.size, 0, none⟩ = some (.int .i64 c7) ∧ w'.cell? ⟨w12.heap.size, 1, none⟩ = some (.slice a7 n7 m7) ∧ w'.cell? ⟨w14.heap.size, 0, none⟩ = some (.int .i64 c8) ∧ w'.cell? ⟨w14.heap.size, 1, none⟩ = some (.slice a8 n8 m8))
    (first | assumption | exact HC.out _ (by assumption) | go_keep)
    (first
      | (go_at_call 36; refine (sLanguageOf c1 _ L1 x1 _ (HS1.out _ bb0) HZ1.out).mono ?_; rintro e w500 ⟨v50, rfl, ho50, hq⟩; have bb1 := bb0.trans (hq.mono bb0.size); have SK := HC.out _ bb1; have hs50 := OwnS.strs ho50)
      | (go_at_call 35; refine (sameTexts _ _ (avoL c3 L3 x3) (avoL c3 L3 x3) _ hs53 hs52).mono ?_; rintro e w504 ⟨rfl, hq⟩; have bb5 := bb4.trans (hq.below _); have SK := HC.out _ bb5; rw [same_refl])
      | (go_at_call 37; refine (iAvoidingWords c3 _ L3 x3 _ (HMl.out _ bb2) (HS3.out _ bb2) HZ3.out).mono ?_; rintro e w502 ⟨v51, rfl, ho51, hq⟩; have bb3 := bb2.trans (hq.mono bb2.size); have SK := HC.out _ bb3; have hs51 := OwnS.strs ho51)
      | (go_at_call 38; refine (sAvoidingWords c3 _ L3 x3 _ (HS3.out _ bb3) HZ3.out).mono ?_; rintro e w503 ⟨v52, rfl, ho52, hq⟩; have bb4 := bb3.trans (hq.mono bb3.size); have SK := HC.out _ bb4; have hs52 := OwnS.strs ho52; have hs53 := Strs.keep hs51 hq)
      | (go_at_call 35; refine (sameTexts _ _ (langL c1 L1 x1) (langL c1 L1 x1) _ (HLL.out _ bb1) hs50).mono ?_; rintro e w501 ⟨rfl, hq⟩; have bb2 := bb1.trans (hq.below _); have SK := HC.out _ bb2; rw [same_refl])
      | (go_at_call 39; refine (sameShiftC c5 _ _ L5 _ (HS5.out _ bb5) (HS6.out _ bb5)).mono ?_; rintro e w505 ⟨rfl, hq⟩; have bb6 := bb5.trans (hq.mono bb5.size); have SK := HC.out _ bb6)
      | (go_at_call 40; refine (iInLanguage c7 _ L7 s7 _ (HMl.out _ bb6) (HS7.out _ bb6) HZ7.out (by omega)).mono ?_; rintro e w506 ⟨rfl, hq⟩; have bb7 := bb6.trans (hq.mono bb6.size); have SK := HC.out _ bb7)
      | (go_at_call 41; refine (sInLanguage c7 _ L7 s7 _ (HS7.out _ bb7) HZ7.out (by omega)).mono ?_; rintro e w507 ⟨rfl, hq⟩; have bb8 := bb7.trans (hq.mono bb7.size); have SK := HC.out _ bb8)
      | (go_at_call 42; refine (iAvoidsAll c8 _ L8 s8 _ (HMl.out _ bb8) (HS8.out _ bb8) HZ8.out (by omega)).mono ?_; rintro e w508 ⟨rfl, hq⟩; have bb9 := bb8.trans (hq.mono bb8.size); have SK := HC.out _ bb9)
      | (go_at_call 43; refine (sAvoidsAll c8 _ L8 s8 _ (HS8.out _ bb9) HZ8.out (by omega)).mono ?_; rintro e w509 ⟨rfl, hq⟩; have bb10 := bb9.trans (hq.mono bb9.size); have SK := HC.out _ bb10)
      | (go_at_call 44; refine (iIsEmptyShift c1 _ L1 _ (HMl.out _ bb10) (HS1.out _ bb10) HZ1.out).mono ?_; rintro e w510 ⟨rfl, hq⟩; have bb11 := bb10.trans (hq.mono bb10.size); have SK := HC.out _ bb11)
      | (go_at_call 45; refine (sIsEmptyShift c1 _ L1 _ (HS1.out _ bb11) HZ1.out).mono ?_; rintro e w511 ⟨rfl, hq⟩; have bb12 := bb11.trans (hq.mono bb11.size); have SK := HC.out _ bb12)
      | (go_at_call 46; refine (iIsShift c1 _ L1 _ (HS1.out _ bb12) HZ1.out).mono ?_; rintro e w512 ⟨rfl, hq⟩; have bb13 := bb12.trans (hq.mono bb12.size); have SK := HC.out _ bb13)
      | (go_at_call 47; refine (sIsShift c1 _ L1 _ (HS1.out _ bb13) HZ1.out).mono ?_; rintro e w513 ⟨rfl, hq⟩; have bb14 := bb13.trans (hq.mono bb13.size); have SK := HC.out _ bb14))
  have hk0 := ok1.1
  have hk4 := ok1.2.1
  replace hTb := hTb.keep bb14
  replace hEv := hEv.keep bb14
  replace hMl := hMl.keep bb14
  replace hs1 := hs1.keep bb14
  replace hS1 := hS1.keep bb14
  replace hl := hl.keep bb14
  have bE := bD.trans (bb14.mono bD.size)
  clear bD bb0 bb14 HMl HLL HC SK0 hs3 hs5 hs6 hs7 hs8 hS3 hS5 hS6 hS7 hS8 HS1 HS3 HS5 HS6 HS7 HS8 qa qb qc qd qe q5
  have hTZ := shT_size c1 L1
  have HBK := Lib.hid (fun c l b (h : ShR (shT c1 L1) c l b) => shT_back h)
  obtain ⟨T, hT⟩ : ∃ T, shT c1 L1 = T := ⟨_, rfl⟩
  rw [hT] at hTZ HBK
  have HT := Lib.hid hT
  clear hT
  obtain ⟨IS, hIS⟩ : ∃ b, isShift c1 L1 = b := ⟨_, rfl⟩
  rw [hIS] at HBK
  have HIS := Lib.hid hIS
  clear hIS
  have r00 := hS1.c0
  have r01 := hS1.c1
  go_wp2_with fail
  refine (iShiftText c1 _ L1 _ hs1 HZ1.out (by omega) (by omega) hTb).mono ?_
  rintro e w601 ⟨rfl, hb601⟩
  replace hTb := hTb.keep hb601
  replace hEv := hEv.keep hb601
  replace hMl := hMl.keep hb601
  replace hs1 := hs1.keep hb601
  replace hS1 := hS1.keep hb601
  replace hl := hl.keep hb601
  have b601 := bE.trans (hb601.mono bE.size)
  clear hb601 bE
  clear r00 r01
  rw [HT.out]
  go_wp2_with fail
  refine (iParseShift T _ (by omega) hMl hTb hEv).mono ?_
  rintro e w602 ⟨c9, v9, L9, b9, rfl, ho9, HR9, hb602⟩
  replace hTb := hTb.keep hb602
  replace hEv := hEv.keep hb602
  replace hMl := hMl.keep hb602
  replace hs1 := hs1.keep hb602
  replace hS1 := hS1.keep hb602
  replace hl := hl.keep hb602
  have b602 := b601.trans (hb602.mono b601.size)
  clear hb602 b601
  obtain ⟨hbk, hzz⟩ := HBK.out _ _ _ HR9.out
  subst hbk
  have HZZ := Lib.hid hzz
  clear hzz HR9 HBK
  obtain ⟨a9, m9, hf9⟩ := ownX_form ho9
  subst hf9
  have hs9 := OwnX.strs ho9
  clear ho9
  obtain ⟨n9, hn9⟩ : ∃ k, L9.length = k := ⟨_, rfl⟩
  rw [hn9] at hs9 ⊢
  clear hn9
  have hX := below_alloc w602 (.cells #[.int .i64 c9, .slice a9 n9 m9] 41)
  have hS9 := Sh.new w602 41 c9 (.slice a9 n9 m9)
  replace hTb := hTb.keep hX
  replace hEv := hEv.keep hX
  replace hMl := hMl.keep hX
  replace hs1 := hs1.keep hX
  replace hS1 := hS1.keep hX
  replace hl := hl.keep hX
  replace hs9 := hs9.keep hX
  have b603 : Below w.heap.size w _ := b602.trans (hX.mono b602.size)
  clear hX b602
  have q17 := bne_self_toList T
  have r00 := hS1.c0
  have r01 := hS1.c1
  go_wp2_with fail
  refine (sShiftText c1 _ L1 _ hs1 HZ1.out (by omega) (by omega)).mono ?_
  rintro e w604 ⟨rfl, hb604⟩
  replace hTb := hTb.keep hb604
  replace hEv := hEv.keep hb604
  replace hMl := hMl.keep hb604
  replace hs1 := hs1.keep hb604
  replace hS1 := hS1.keep hb604
  replace hl := hl.keep hb604
  replace hs9 := hs9.keep hb604
  replace hS9 := hS9.keep hb604
  have b604 := b603.trans (hb604.mono b603.size)
  clear hb604 b603
  clear r00 r01
  rw [HT.out]
  have r00 := hS1.c0
  have r01 := hS1.c1
  go_wp2_with fail
  refine (sIsShift c1 _ L1 _ hs1 HZ1.out).mono ?_
  rintro e w605 ⟨rfl, hb605⟩
  replace hTb := hTb.keep hb605
  replace hEv := hEv.keep hb605
  replace hMl := hMl.keep hb605
  replace hs1 := hs1.keep hb605
  replace hS1 := hS1.keep hb605
  replace hl := hl.keep hb605
  replace hs9 := hs9.keep hb605
  replace hS9 := hS9.keep hb605
  have b605 := b604.trans (hb605.mono b604.size)
  clear hb605 b604
  clear r00 r01
  rw [HIS.out]
  clear q17 HT
  cases b9
  · have hn0 : n2 = 0 := by
      have h := hl
      rw [langL_no (langB_1 HIS.out)] at h
      obtain ⟨_, _, _, e, HL, _, _⟩ := h.open
      cases e
      exact HL.out.symm
    subst hn0
    go_wp2
    go_loopw [20] (fun i wr => i = .int .i64 0 ∧ wr = w605) (fun _ _ => 0)
    case atStart => exact ⟨rfl, rfl⟩
    case round =>
      obtain ⟨rfl, rfl⟩ := hrel
      have r00 := hS1.c0
      have r01 := hS1.c1
      go_wp2_with fail
      refine (sIsShift c1 _ L1 _ hs1 HZ1.out).mono ?_
      rintro e w606 ⟨rfl, hb606⟩
      replace hTb := hTb.keep hb606
      replace hEv := hEv.keep hb606
      replace hMl := hMl.keep hb606
      replace hs1 := hs1.keep hb606
      replace hS1 := hS1.keep hb606
      replace hl := hl.keep hb606
      replace hs9 := hs9.keep hb606
      replace hS9 := hS9.keep hb606
      have b606 := b605.trans (hb606.mono b605.size)
      clear hb606 b605
      clear r00 r01
      rw [HIS.out]
      go_wp2
      go_ret
      exact ⟨rfl, b606⟩
  · obtain ⟨e1, e2⟩ := HZZ.out rfl
    have e3 := e1.symm
    have e4 := e2.symm
    clear e1 e2 HZZ
    subst e3
    subst e4
    have r00 := hS9.c0
    have r01 := hS9.c1
    have r10 := hS1.c0
    have r11 := hS1.c1
    go_wp2_with fail
    refine (sameShiftC c1 _ _ L1 _ hs9 hs1).mono ?_
    rintro e w606 ⟨rfl, hb606⟩
    replace hTb := hTb.keep hb606
    replace hEv := hEv.keep hb606
    replace hMl := hMl.keep hb606
    replace hs1 := hs1.keep hb606
    replace hS1 := hS1.keep hb606
    replace hl := hl.keep hb606
    replace hs9 := hs9.keep hb606
    replace hS9 := hS9.keep hb606
    have b606 := b605.trans (hb606.mono b605.size)
    clear hb606 b605
    clear r00 r01 r10 r11
    clear hs9 hS9
    obtain ⟨al, nl, cl, el, HLl, -, HCl⟩ := hl.open
    cases el
    have hn2b : n2 ≤ 1000 := by have := langL_len c1 L1 x1; have := HLl.out; omega
    clear hl hEv hTb
    have HF := Lib.hid (fun x (hx : x ∈ langL c1 L1 x1) => langL_facts hx)
    have HM2 := Lib.hid (fun (w' : World) (h : Below w606.heap.size w606 w') => Ml.keep hMl h)
    have HS2 := Lib.hid (fun (w' : World) (h : Below w606.heap.size w606 w') => Strs.keep hs1 h)
    have HC1 := Lib.hid (fun (w' : World) (h : Below w606.heap.size w606 w') => And.intro (hS1.keep h).c0 (hS1.keep h).c1)
    clear hMl hs1 hS1
    go_wp2
    go_loopw [20] (fun i wr => (∃ j : Nat, j ≤ n2 ∧ i = .int .i64 j) ∧ Below w606.heap.size w606 wr) (fun i _ => n2 - (intOf i).toNat)
    case atStart => exact ⟨⟨0, Nat.zero_le _, rfl⟩, Below.refl _ _⟩
    case round =>
      obtain ⟨⟨j, hj, rfl⟩, hd⟩ := hrel
      by_cases hlt : j < n2
      · obtain ⟨b, off, x, rfl, hc, HX⟩ := HCl.out j hlt
        obtain ⟨f1, f2, f3, f4, f5, f6, f7, f8, f9⟩ := HF.out x (List.mem_of_getElem? HX.out)
        have F6 := Lib.hid f6
        have F7 := Lib.hid f7
        have F8 := Lib.hid f8
        have F9 := Lib.hid f9
        have F5 := Lib.hid f5
        have hxz : x.size ≤ 1048576 := by omega
        have hxs : x.size ≤ 6 := by omega
        clear f5 f6 f7 f8 f9
        have cc0 : Below w606.heap.size w606 wr.drew := hd.drew
        have HC3 : Hid (∀ w', Below w606.heap.size w606 w' → w'.cell? ⟨w2.heap.size, 0, none⟩ = some (.int .i64 c1) ∧ w'.cell? ⟨w2.heap.size, 1, none⟩ = some (.slice a1 n1 m1) ∧ w'.cell? ⟨b, off + j, none⟩ = some (.string x)) := Lib.hid fun w' h => And.intro (HC1.out _ h).1 (And.intro (HC1.out _ h).2 (cell_keep h hc))
        have SKc := HC3.out _ cc0
        go_wp2
        go_region_held3 (fun w' => w'.cell? ⟨w2.heap.size, 0, none⟩ = some (.int .i64 c1) ∧ w'.cell? ⟨w2.heap.size, 1, none⟩ = some (.slice a1 n1 m1) ∧ w'.cell? ⟨b, off + j, none⟩ = some (.string x))
          (first | assumption | go_keep)
          (first
            | (go_at_call 40; refine (iInLanguage c1 _ L1 x _ (HM2.out _ cc0) (HS2.out _ cc0) HZ1.out hxz).mono ?_; rintro e w71 ⟨rfl, hq⟩; rw [F6.out]; have cc1 := cc0.trans (hq.mono cc0.size); have SKd := HC3.out _ cc1)
            | (go_at_call 42; refine (iAvoidsAll c1 _ L1 x _ (HM2.out _ cc1) (HS2.out _ cc1) HZ1.out hxz).mono ?_; rintro e w72 ⟨rfl, hq⟩; rw [F7.out]; have cc2 := cc1.trans (hq.mono cc1.size); have SKe := HC3.out _ cc2))
        clear SKc SKd SKe cc0 cc1
        by_cases h0 : 0 < x1
        · obtain ⟨g1, g2⟩ := F8.out h0
          have f5 := F5.out
          have G1 := Lib.hid g1
          have G2 := Lib.hid g2
          clear g1 g2
          have hy1 : (1 : Int) ≤ (x.size : Int) := by omega
          have hy2 : (0 : Int) ≤ x1 - 1 := by omega
          have hy3 : x1 - 1 ≤ (x.size : Int) := by omega
          have hy4 : 1 ≤ x.size := by omega
          have hy5 : (x1 - 1).toNat ≤ x.size := by omega
          have hy6 : 0 < x.size := by omega
          have hy7 : (0 : Int) ≤ (x.size : Int) := by omega
          obtain ⟨k, hx1k⟩ : ∃ k : Nat, x1 - 1 = (k : Int) := ⟨(x1 - 1).toNat, by omega⟩
          have hwk2 : IntKind.i64.wrap (k : Int) = (k : Int) := by rw [IntKind.wrap_i64]; omega
          have hkx : k ≤ x.size := by omega
          have hkI : (k : Int) ≤ (x.size : Int) := by omega
          have hkI0 : (0 : Int) ≤ (k : Int) := by omega
          rw [show (x1 - 1).toNat = k by omega] at G2
          have hxd : decide (0 < x1) = true := decide_eq_true h0
          clear f5 hy2 hy3 hy5
          have hz1 : (x.extract 1 x.size).size ≤ 1048576 := by rw [ByteArray.size_extract]; omega
          have hz2 : (x.extract 0 k).size ≤ 1048576 := by rw [ByteArray.size_extract]; omega
          have dd0 : Below w606.heap.size w606 w72.drew := cc2.drew
          have SKc := HC3.out _ dd0
          go_wp2
          go_region_held3 (fun w' => w'.cell? ⟨w2.heap.size, 0, none⟩ = some (.int .i64 c1) ∧ w'.cell? ⟨w2.heap.size, 1, none⟩ = some (.slice a1 n1 m1) ∧ w'.cell? ⟨b, off + j, none⟩ = some (.string x))
            (first | assumption | go_keep)
            (first
              | (go_at_call 40; have hh := dd1; refine (iInLanguage c1 _ L1 (x.extract 0 k) _ (HM2.out _ dd1) (HS2.out _ dd1) HZ1.out hz2).mono ?_; rintro e w74 ⟨rfl, hq⟩; rw [G2.out]; have dd2 := dd1.trans (hq.mono dd1.size); have SKe := HC3.out _ dd2)
              | (go_at_call 40; (fail_if_success (have hh := dd1)); refine (iInLanguage c1 _ L1 (x.extract 1 x.size) _ (HM2.out _ dd0) (HS2.out _ dd0) HZ1.out hz1).mono ?_; rintro e w73 ⟨rfl, hq⟩; rw [G1.out]; have dd1 := dd0.trans (hq.mono dd0.size); have SKd := HC3.out _ dd1))
          clear SKc SKd SKe dd0 dd1 cc2 hy1 hy4 hy6 hy7 hwk2 hx1k hkx hkI hkI0 hxd hz1 hz2 h0 F8 F5
          go_wp2
          go_loopw [21, 22] (fun q i wr => ∃ (y : Nat) (bq : Bool), (y : Int) ≤ c1 ∧ i = .int .i64 y ∧ q = .bool bq ∧ Hid (bq = moreB c1 L1 x y) ∧ Below w606.heap.size w606 wr) (fun _ i _ => c1.toNat - (intOf i).toNat)
          case atStart => exact ⟨0, false, by omega, rfl, rfl, Lib.hid rfl, dd2⟩
          case round =>
            clear dd2
            obtain ⟨y, bq, hy, rfl, rfl, HB, he⟩ := hrel
            have hrr := HC1.out _ he
            have hr0 := hrr.1
            by_cases hlty : (y : Int) < c1
            · have hy2 : y ≤ 2 := by omega
              have HEXT : Hid ((⟨#[97, 98, 99]⟩ : ByteArray).extract y (y + 1) = str [ltr y]) := Lib.hid (by
                have : y = 0 ∨ y = 1 ∨ y = 2 := by omega
                rcases this with rfl | rfl | rfl <;> rfl)
              obtain ⟨nx, hnx⟩ : ∃ nx, x ++ str [ltr y] = nx := ⟨_, rfl⟩
              have HNX := Lib.hid hnx
              have hcat : x ++ (⟨#[97, 98, 99]⟩ : ByteArray).extract y (y + 1) = nx := by rw [HEXT.out, hnx]
              have hx3 : (y : Int) + 1 ≤ 3 := by omega
              have hx4 : (0 : Int) ≤ (y : Int) + 1 := by omega
              have hx5 : ((y : Int) + 1).toNat = y + 1 := by omega
              have hx6 : y + 1 ≤ 3 := by omega
              have hx7 : (y : Int) ≤ (y : Int) + 1 := by omega
              have hx8 : y ≤ y + 1 := by omega
              have hes : ((⟨#[97, 98, 99]⟩ : ByteArray).extract y (y + 1)).size = 1 := by rw [HEXT.out, str_size]; rfl
              have hes3 : (Op.stringOp .add x ((⟨#[97, 98, 99]⟩ : ByteArray).extract y (y + 1))).run Tryz.prog = fun w => .ok (.string nx) w := by funext w; rw [run_string_add_if, if_neg (by rw [hes]; omega), hcat]
              have hw1 : IntKind.i64.wrap ((y : Int) + 1) = (y : Int) + 1 := by rw [IntKind.wrap_i64]; omega
              have hnz : nx.size ≤ 1048576 := by rw [← hcat, ByteArray.size_append, hes]; omega
              have HMS := Lib.hid (moreB_succ c1 L1 x y)
              rw [HNX.out, ← HB.out] at HMS
              clear hnx hcat
              cases bq
              · have hee := he.drew
                have hrd := HC1.out _ hee
                have hcd := cell_keep hee hc
                have hSd := And.intro hrd.1 (And.intro hrd.2 hcd)
                obtain ⟨R, hR⟩ : ∃ R, inLang c1 L1 nx = R := ⟨_, rfl⟩
                rw [hR] at HMS
                have HR := Lib.hid hR
                clear hR
                go_wp2
                go_region_held3 (fun w' => w'.cell? ⟨w2.heap.size, 0, none⟩ = some (.int .i64 c1) ∧ w'.cell? ⟨w2.heap.size, 1, none⟩ = some (.slice a1 n1 m1) ∧ w'.cell? ⟨b, off + j, none⟩ = some (.string x))
                  (first | assumption | go_keep)
                  ((go_at_call 40; refine (iInLanguage c1 _ L1 nx _ (HM2.out _ hee) (HS2.out _ hee) HZ1.out hnz).mono ?_; rintro e w90 ⟨rfl, hq⟩; rw [HR.out]; have hef := hee.trans (hq.mono hee.size); have hrf := HC1.out _ hef; have hcf := cell_keep hef hc; have hSf := And.intro hrf.1 (And.intro hrf.2 hcf)))
                go_wp2
                go_roundw
                case rel => exact ⟨y + 1, R, by omega, by go_num, rfl, Lib.hid (by rw [HMS.out, Bool.false_or]), hef⟩
                case measure => simp [intOf]; omega
              · go_wp2
                go_quiet (fail)
                go_wp2
                go_roundw
                case rel => exact ⟨y + 1, true, by omega, by go_num, rfl, Lib.hid (by rw [HMS.out, Bool.true_or]), he.trans ((below_drewN _ _).mono he.size)⟩
                case measure => simp [intOf]; omega
            · have hbt : bq = true := by
                obtain ⟨t, ht1, ht2⟩ := F9.out
                rw [HB.out]; exact moreB_yes (by omega) ht2
              subst hbt
              go_wp2
              go_roundw
              case rel => exact ⟨⟨j + 1, by omega, by go_num⟩, he⟩
              case measure => simp [intOf]; omega
        · have hxd : decide (0 < x1) = false := decide_eq_false h0
          clear F8 F5
          go_wp2
          go_quiet (fail)
          have dd2 := fun n => cc2.trans ((below_drewN w72 n).mono cc2.size)
          clear cc2
          go_wp2
          go_loopw [21, 22] (fun q i wr => ∃ (y : Nat) (bq : Bool), (y : Int) ≤ c1 ∧ i = .int .i64 y ∧ q = .bool bq ∧ Hid (bq = moreB c1 L1 x y) ∧ Below w606.heap.size w606 wr) (fun _ i _ => c1.toNat - (intOf i).toNat)
          case atStart => exact ⟨0, false, by omega, rfl, rfl, Lib.hid rfl, dd2 _⟩
          case round =>
            clear dd2
            obtain ⟨y, bq, hy, rfl, rfl, HB, he⟩ := hrel
            have hrr := HC1.out _ he
            have hr0 := hrr.1
            by_cases hlty : (y : Int) < c1
            · have hy2 : y ≤ 2 := by omega
              have HEXT : Hid ((⟨#[97, 98, 99]⟩ : ByteArray).extract y (y + 1) = str [ltr y]) := Lib.hid (by
                have : y = 0 ∨ y = 1 ∨ y = 2 := by omega
                rcases this with rfl | rfl | rfl <;> rfl)
              obtain ⟨nx, hnx⟩ : ∃ nx, x ++ str [ltr y] = nx := ⟨_, rfl⟩
              have HNX := Lib.hid hnx
              have hcat : x ++ (⟨#[97, 98, 99]⟩ : ByteArray).extract y (y + 1) = nx := by rw [HEXT.out, hnx]
              have hx3 : (y : Int) + 1 ≤ 3 := by omega
              have hx4 : (0 : Int) ≤ (y : Int) + 1 := by omega
              have hx5 : ((y : Int) + 1).toNat = y + 1 := by omega
              have hx6 : y + 1 ≤ 3 := by omega
              have hx7 : (y : Int) ≤ (y : Int) + 1 := by omega
              have hx8 : y ≤ y + 1 := by omega
              have hes : ((⟨#[97, 98, 99]⟩ : ByteArray).extract y (y + 1)).size = 1 := by rw [HEXT.out, str_size]; rfl
              have hes3 : (Op.stringOp .add x ((⟨#[97, 98, 99]⟩ : ByteArray).extract y (y + 1))).run Tryz.prog = fun w => .ok (.string nx) w := by funext w; rw [run_string_add_if, if_neg (by rw [hes]; omega), hcat]
              have hw1 : IntKind.i64.wrap ((y : Int) + 1) = (y : Int) + 1 := by rw [IntKind.wrap_i64]; omega
              have hnz : nx.size ≤ 1048576 := by rw [← hcat, ByteArray.size_append, hes]; omega
              have HMS := Lib.hid (moreB_succ c1 L1 x y)
              rw [HNX.out, ← HB.out] at HMS
              clear hnx hcat
              cases bq
              · have hee := he.drew
                have hrd := HC1.out _ hee
                have hcd := cell_keep hee hc
                have hSd := And.intro hrd.1 (And.intro hrd.2 hcd)
                obtain ⟨R, hR⟩ : ∃ R, inLang c1 L1 nx = R := ⟨_, rfl⟩
                rw [hR] at HMS
                have HR := Lib.hid hR
                clear hR
                go_wp2
                go_region_held3 (fun w' => w'.cell? ⟨w2.heap.size, 0, none⟩ = some (.int .i64 c1) ∧ w'.cell? ⟨w2.heap.size, 1, none⟩ = some (.slice a1 n1 m1) ∧ w'.cell? ⟨b, off + j, none⟩ = some (.string x))
                  (first | assumption | go_keep)
                  ((go_at_call 40; refine (iInLanguage c1 _ L1 nx _ (HM2.out _ hee) (HS2.out _ hee) HZ1.out hnz).mono ?_; rintro e w90 ⟨rfl, hq⟩; rw [HR.out]; have hef := hee.trans (hq.mono hee.size); have hrf := HC1.out _ hef; have hcf := cell_keep hef hc; have hSf := And.intro hrf.1 (And.intro hrf.2 hcf)))
                go_wp2
                go_roundw
                case rel => exact ⟨y + 1, R, by omega, by go_num, rfl, Lib.hid (by rw [HMS.out, Bool.false_or]), hef⟩
                case measure => simp [intOf]; omega
              · go_wp2
                go_quiet (fail)
                go_wp2
                go_roundw
                case rel => exact ⟨y + 1, true, by omega, by go_num, rfl, Lib.hid (by rw [HMS.out, Bool.true_or]), he.trans ((below_drewN _ _).mono he.size)⟩
                case measure => simp [intOf]; omega
            · have hbt : bq = true := by
                obtain ⟨t, ht1, ht2⟩ := F9.out
                rw [HB.out]; exact moreB_yes (by omega) ht2
              subst hbt
              go_wp2
              go_roundw
              case rel => exact ⟨⟨j + 1, by omega, by go_num⟩, he⟩
              case measure => simp [intOf]; omega
      · have br := b606.trans (hd.mono b606.size)
        have hrr := HC1.out _ hd
        have hr0 := hrr.1
        have hr1 := hrr.2
        go_wp2_with fail
        refine (sIsShift c1 _ L1 _ (HS2.out _ hd) HZ1.out).mono ?_
        rintro e w80 ⟨rfl, hb80⟩
        rw [HIS.out]
        have hd8 := hd.trans (hb80.mono hd.size)
        have b80 := br.trans (hb80.mono br.size)
        clear hrr hr0 hr1
        by_cases h0 : x1 < 0
        · go_wp2
          go_ret
          exact ⟨rfl, b80⟩
        · by_cases h6 : 6 < x1
          · go_wp2
            go_ret
            exact ⟨rfl, b80⟩
          · have hq9 : (((n2 : Int) == 0) == isEmptyS c1 L1) = true := langL_len0 (by rw [← HLl.out]; exact langL_empty HIS.out (by omega) (by omega))
            obtain ⟨ES, hES⟩ : ∃ b, isEmptyS c1 L1 = b := ⟨_, rfl⟩
            rw [hES] at hq9
            have HES := Lib.hid hES
            clear hES
            have hrr := HC1.out _ hd8
            have hr0 := hrr.1
            have hr1 := hrr.2
            go_wp2_with fail
            refine (iIsEmptyShift c1 _ L1 _ (HM2.out _ hd8) (HS2.out _ hd8) HZ1.out).mono ?_
            rintro e w81 ⟨rfl, hb81⟩
            rw [HES.out]
            go_wp2
            go_ret
            exact ⟨rfl, b80.trans (hb81.mono b80.size)⟩
set_option maxRecDepth 100000 in
theorem fnShifts_lifted (os : Os) (started : os.Started) (H : Type) (enc : TypeId × Value → H) :
    ReturnsInHanded {} Tryz.checked os 4 .any (fun w args => (Rows.fnShiftsSpec.pre enc Tryz.prog Tryz.f4 [] false w args ∧ laidMetH Tryz.prog Rows.fnShiftsRow.laid w) ∧ sizedMet enc Tryz.prog Tryz.f4 (OpenSpec.ofChange Rows.fnShiftsSpec) false w args) (Rows.fnShiftsSpec.post enc Tryz.prog Tryz.f4 false true false false) := by
  refine lifted_law_door (lst := Rows.fnShiftsRow.laid) started (by kernel_rfl) Tryz.func4
    (ChangeSpec.witness_shaped (enc := enc) (C := Tryz.checked) (os := os) (X := fun w _ => laidMetH Tryz.prog Rows.fnShiftsRow.laid w) false (World.laidAll Tryz.prog os Rows.fnShiftsRow.laid) #[.slice none 0 0] 8 (World.laidAll_os _ _ _)
      (World.shaped_of_ZipB (by kernel_rfl) (by kernel_rfl)) (by kernel_rfl) (by kernel_rfl) (by kernel_rfl)
      (by rw [MakeChecks.laidMetH_plain _ _ _ (by kernel_rfl)]; exact laidMet_laidAll _ (by kernel_rfl) (by kernel_rfl)))
    rfl (by kernel_rfl) (by kernel_rfl) ?_ ?_
  · intro ds hl
    match ds, hl with
    | [d0], _ => rfl
  · intro W base args ds p hshp hlaid hval hA
    rw [Tryz.params4] at hval hA
    obtain ⟨v0, vs0, d0, ds0, p0, q0, hargs, rfl, rfl, h0, r0⟩ := trodAll_cons hA
    obtain ⟨rfl, rfl, rfl⟩ := trodAll_nil r0
    obtain rfl : args = #[v0] := by cases args; simp_all
    obtain ⟨a0, n0, c0, rfl⟩ := okWide_slice Tryz.underlying22 (hval 0 22 v0 rfl rfl)
    obtain ⟨m0, hm0⟩ : ∃ l, BytesV W (.slice a0 n0 c0) l := by obtain ⟨fu, hf⟩ := h0; exact bytes_of_trod Tryz.underlying22 Tryz.underlying5 (by kernel_rfl) rfl hf
    exact lawShifts W hshp hlaid _ m0 hm0

set_option maxRecDepth 100000 in
theorem fnShifts_holds : Rows.FnShiftsSaid :=
  OpenClaim.holds_of_wide 4 Tryz.f4 rfl rfl rfl rfl rfl rfl rfl ⟨rfl, rfl, rfl, rfl, rfl⟩ rfl rfl rfl rfl rfl (by kernel_rfl) Tryz.func4 (by kernel_rfl)
    (of_decide_eq_true (by kernel_rfl)) (by unfold Func.isWrapper; first | (rw [if_pos (by decide +kernel)]; kernel_rfl) | (rw [if_neg (by decide +kernel)]; exact ⟨rfl, rfl⟩))
    (fun os started H enc _ => fnShifts_lifted os started H enc)
set_option maxRecDepth 100000 in
theorem fnShiftsCard_holds : Rows.FnShiftsCardSaid :=
  Claim7.holds_tied_plain_at .later [] [.data, .data, .data, .data, .sentinel, .sentinel, .pinned] true (true, "34d3a71a00f95a915741c963cd426620d004358b10d8e994fe78df5d3b04802d") true fnShifts_holds (fun _ h => by cases h) (by kernel_rfl) (fun _ h => by cases h) fnShifts_row_tie rfl ⟨rfl, rfl⟩ (by kernel_rfl) rfl
    (fun f fn hf hfn => by
      obtain rfl : f = 4 := Option.some.inj ((show Tryz.prog.funcNamed "loop.example/g03103/laws.FnShifts" = some 4 by kernel_rfl).symm.trans hf) |>.symm
      obtain rfl : fn = Tryz.f4 := (Option.some.inj (Tryz.func4.symm.trans hfn)).symm
      exact ⟨by kernel_rfl, fun j t ht => by
        have hall : (Tryz.f4.params.toList.all fun u => !Tryz.prog.wantsStandIn u) = true := by kernel_rfl
        have hm : t ∈ Tryz.f4.params.toList := Array.mem_toList_iff.2 (Array.mem_of_getElem? ht)
        exact (show Tryz.prog.wantsStandIn t = false by simpa using List.all_eq_true.1 hall t hm)⟩)
    (by kernel_rfl)

end Go.Proofs.YtkohadoicebojaaGreatDoor
