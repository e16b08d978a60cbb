/- ParseInt and ParseNumber, the program's (by the library's contracts) and the reference's. No statement is proved here. -/
import Derived.Test.YtloicjojhfpihaaDoorReadP
import Derived.Lib.AtoiErrMem
import Derived.Lib.SmallJoins
import Derived.LaidLaws
import Derived.Deep.RegionHeld3
namespace Go.Proofs.YtloicjojhfpihaaDoor
open Go.RowKit Go.Deep
theorem arr_one {α : Type} {a : Array α} {x : α} (h : a.toList = [x]) : a = #[x] := by cases a; simp at h; simp [h]
theorem toListX_inj {x y : ByteArray} (h : x.toList = y.toList) : x = y := by
  rw [ByteArray.toList_eq, ByteArray.toList_eq] at h
  exact bts_inj h
theorem bneX {x y : ByteArray} (h : ¬ x = y) : (x.toList != y.toList) = true := bne_iff_ne.2 fun e => h (toListX_inj e)
theorem bneX0 {x y : ByteArray} (h : x = y) : (x.toList != y.toList) = false := by subst h; simp
/-- The library's two errors are there. -/
def Ev (w : World) : Prop := (∃ t p, w.cell? ⟨3, 0, none⟩ = some (.iface t p)) ∧ (∃ t p, w.cell? ⟨4, 0, none⟩ = some (.iface t p))
theorem Ev.keep {w w' : World} (h : Ev w) (hb : Below w.heap.size w w') : Ev w' := by
  obtain ⟨⟨t, p, h1⟩, ⟨u, q, h2⟩⟩ := h
  exact ⟨⟨t, p, by rw [hb.cell (World.block_lt_of_cell? w _ h1)]; exact h1⟩, ⟨u, q, by rw [hb.cell (World.block_lt_of_cell? w _ h2)]; exact h2⟩⟩
theorem gSyn : Tryd.prog.globalNamed "strconv.ErrSyntax" = some 3 := by kernel_rfl
theorem gRng : Tryd.prog.globalNamed "strconv.ErrRange" = some 4 := by kernel_rfl
theorem ev_of_laid {W : World} {d1 d2 d3 e1 e2 : DataW Unit} {n1 n2 n3 s1 s2 : String} {rest : List (String × DataW Unit)} (h : laidMet Tryd.prog ((n1, d1) :: (n2, d2) :: (n3, d3) :: ("strconv.ErrRange", .iface s1 e1) :: ("strconv.ErrSyntax", .iface s2 e2) :: rest) W) : Ev W := by
  obtain ⟨ps, ⟨g0, t0, cs0, f0, p0, q0, _, _, _, _, ⟨g1, t1, cs1, f1, p1, q1, _, _, _, _, ⟨g2, t2, cs2, f2, p2, q2, _, _, _, _, ⟨g, t, cs, fuel, p, q, hg, ht, hv, hd, ⟨g', t', cs', fuel', p', q', hg', ht', hv', hd', _⟩, _⟩, _⟩, _⟩, _⟩, _⟩ := h
  obtain rfl := Option.some.inj (gRng.symm.trans hg)
  obtain rfl := Option.some.inj (gSyn.symm.trans hg')
  obtain rfl := Option.some.inj ((show (Tryd.prog.globals[4]?).map (·.type) = some 59 by kernel_rfl).symm.trans ht)
  obtain rfl := Option.some.inj ((show (Tryd.prog.globals[3]?).map (·.type) = some 59 by kernel_rfl).symm.trans ht')
  obtain ⟨_, u, v, hcs, _⟩ := iface_of_trod Tryd.underlying59 hd
  obtain ⟨_, u', v', hcs', _⟩ := iface_of_trod Tryd.underlying59 hd'
  refine ⟨⟨u', v', ?_⟩, ⟨u, v, ?_⟩⟩
  · have := World.var?_cell hg' hv' 0
    rw [arr_one hcs'] at this
    simpa using this
  · have := World.var?_cell hg hv 0
    rw [arr_one hcs] at this
    simpa using this
theorem atoi_bounds {l : List UInt8} {v : Int} (h : Lib.atoiAll l = .ok v) : -9223372036854775808 ≤ v ∧ v ≤ 9223372036854775807 := by
  unfold Lib.atoiAll at h
  split at h
  · cases h
  · simp only at h
    split at h
    · cases h
    · cases h
    · split at h
      · cases h
      · split at h
        · cases h
        · injection h with h
          subst h
          split <;> omega
theorem rd_none {lo hi : Int} {s : ByteArray} (hlo : -9223372036854775808 ≤ lo) (hhi : hi ≤ 9223372036854775807) (h : ∀ v, Lib.atoiAll s.data.toList = .ok v → False) : Rd lo hi s 0 false :=
  .inr ⟨rfl, rfl, fun _ h1 h2 h3 => h _ (fmtI_atoi (by omega) (by omega) h3)⟩
theorem rd_not {lo hi v : Int} {s : ByteArray} (hlo : -9223372036854775808 ≤ lo) (hhi : hi ≤ 9223372036854775807) (hv : Lib.atoiAll s.data.toList = .ok v) (h : lo ≤ v → v ≤ hi → fmtI v = s → False) : Rd lo hi s 0 false :=
  .inr ⟨rfl, rfl, fun m h1 h2 h3 => by
    have e := fmtI_atoi (by omega) (by omega) h3
    rw [hv] at e
    injection e with e
    subst e
    exact h h1 h2 h3⟩
set_option maxRecDepth 10000 in
set_option maxHeartbeats 400000 in
theorem iparse (s : ByteArray) (lo hi : Int) (w : World) (hs : s.size ≤ 1048576) (hlo : -9223372036854775808 ≤ lo) (hhi : hi ≤ 9223372036854775807) (ht : Tb w) (hev : Ev w) :
    Calls Tryd.prog 34 #[.string s, .int .i64 lo, .int .i64 hi] w fun e w' => ∃ n b, e = .returned (.tuple #[.int .i64 n, .bool b]) ∧ Hid (Rd lo hi s n b) ∧ Below w.heap.size w w' := by
  cases hA : Lib.atoiAll s.data.toList with
  | ok v =>
    have hC := Lib.hid (Tryd.strconv_Atoi_ok s (by omega) v hA w)
    obtain ⟨v0, v1⟩ := atoi_bounds hA
    have HA := Lib.hid hA; clear hA
    obtain ⟨F, hF⟩ : ∃ F, fmtI v = F := ⟨_, rfl⟩
    have hlo2 : lo ≤ 9223372036854775807 ∨ 9223372036854775807 < lo := by omega
    have key : ∀ w1, Below w.heap.size w w1 → Hid (Calls Tryd.prog 44 #[.int .i64 v] w1 fun e w' => e = .returned (.string F) ∧ Below w1.heap.size w1 w') := fun w1 hb => Lib.hid (by rw [← hF]; exact iFormatInt v w1 v0 v1 (ht.keep hb))
    have HF := Lib.hid hF; clear hF hlo2 hev
    by_cases h1 : v < lo
    · have HR : Hid (Rd lo hi s 0 false) := Lib.hid (rd_not hlo hhi HA.out fun _ _ _ => by omega)
      go_enter Tryd.func34, Tryd.ntmps34
      go_wp2_with fail
      refine hC.out.mono ?_
      rintro e w1 ⟨rfl, hw1⟩
      have b1 : Below w.heap.size w w1 := by
        rcases hw1 with rfl | ⟨t, rfl⟩
        · exact Below.refl _ _
        · exact Go.Joins.below_bytesWorld _ _ _ _ (Nat.le_refl _)
      clear hw1
      go_wp2
      go_ret2
      exact ⟨_, _, rfl, HR, b1⟩
    by_cases h2 : hi < v
    · have HR : Hid (Rd lo hi s 0 false) := Lib.hid (rd_not hlo hhi HA.out fun _ _ _ => by omega)
      go_enter Tryd.func34, Tryd.ntmps34
      go_wp2_with fail
      refine hC.out.mono ?_
      rintro e w1 ⟨rfl, hw1⟩
      have b1 : Below w.heap.size w w1 := by
        rcases hw1 with rfl | ⟨t, rfl⟩
        · exact Below.refl _ _
        · exact Go.Joins.below_bytesWorld _ _ _ _ (Nat.le_refl _)
      clear hw1
      go_wp2
      go_ret2
      exact ⟨_, _, rfl, HR, b1⟩
    by_cases h3 : F = s
    · have HR : Hid (Rd lo hi s v true) := Lib.hid (.inl ⟨rfl, by omega, by omega, HF.out.trans h3⟩)
      have hq := bneX0 h3
      go_enter Tryd.func34, Tryd.ntmps34
      go_wp2_with fail
      refine hC.out.mono ?_
      rintro e w1 ⟨rfl, hw1⟩
      have b1 : Below w.heap.size w w1 := by
        rcases hw1 with rfl | ⟨t, rfl⟩
        · exact Below.refl _ _
        · exact Go.Joins.below_bytesWorld _ _ _ _ (Nat.le_refl _)
      clear hw1
      go_wp2_with fail
      refine (key w1 b1).out.mono ?_
      rintro e w2 ⟨rfl, b2⟩
      have b3 := b1.trans (b2.mono b1.size)
      go_wp2
      go_ret2
      exact ⟨_, _, rfl, HR, b3⟩
    · have HR : Hid (Rd lo hi s 0 false) := Lib.hid (rd_not hlo hhi HA.out fun _ _ h => h3 (HF.out.symm.trans h))
      have hq := bneX h3
      have hq2 : (F.toList == s.toList) = false := beq_eq_false_iff_ne.2 fun e => h3 (toListX_inj e)
      go_enter Tryd.func34, Tryd.ntmps34
      go_wp2_with fail
      refine hC.out.mono ?_
      rintro e w1 ⟨rfl, hw1⟩
      have b1 : Below w.heap.size w w1 := by
        rcases hw1 with rfl | ⟨t, rfl⟩
        · exact Below.refl _ _
        · exact Go.Joins.below_bytesWorld _ _ _ _ (Nat.le_refl _)
      clear hw1
      go_wp2_with fail
      refine (key w1 b1).out.mono ?_
      rintro e w2 ⟨rfl, b2⟩
      have b3 := b1.trans (b2.mono b1.size)
      go_wp2
      go_ret2
      exact ⟨_, _, rfl, HR, b3⟩
  | range =>
    have HR : Hid (Rd lo hi s 0 false) := Lib.hid (rd_none hlo hhi fun v h => by rw [hA] at h; cases h)
    obtain ⟨_, ⟨t, p, he⟩⟩ := hev
    have hC := Lib.hid (Tryd.strconv_Atoi_range s (by omega) hA _ w he (.inr ⟨_, _, rfl⟩))
    clear hA he
    go_enter Tryd.func34, Tryd.ntmps34
    go_wp2_with fail
    refine hC.out.mono ?_
    rintro e w1 ⟨N, rfl, _, _, b1⟩
    go_wp2
    go_ret2
    exact ⟨_, _, rfl, HR, b1⟩
  | _ =>
    have HR : Hid (Rd lo hi s 0 false) := Lib.hid (rd_none hlo hhi fun v h => by rw [hA] at h; cases h)
    obtain ⟨⟨t, p, he⟩, _⟩ := hev
    have hC := Lib.hid (Tryd.strconv_Atoi_syntax s (by omega) hA _ w he (.inr ⟨_, _, rfl⟩))
    clear hA he
    go_enter Tryd.func34, Tryd.ntmps34
    go_wp2_with fail
    refine hC.out.mono ?_
    rintro e w1 ⟨N, rfl, _, _, b1⟩
    go_wp2
    go_ret2
    exact ⟨_, _, rfl, HR, b1⟩
end Go.Proofs.YtloicjojhfpihaaDoor
