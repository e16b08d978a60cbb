/- Whether a word lies in the language: the program's and the reference's. No statement is proved here. -/
import Derived.Test.YtidfnhoeaofgeaaLang3
namespace Go.Proofs.Ytidfnhoeaofgeaa
open Go.RowKit Go.Deep
theorem beqS (x y : ByteArray) : (x.toList == y.toList) = decide (x = y) := by
  by_cases h : x = y
  · subst h; simp
  · rw [beq_toList_ne h, decide_eq_false h]
def eqT (x y : ByteArray) : Bool := decide (y = x)
theorem hasText_eq (l : List ByteArray) (x : ByteArray) : hasText l x = l.any (eqT x) := rfl
theorem anyT_step {p : ByteArray → Bool} {l : List ByteArray} {j : Nat} {x : ByteArray} {b : Bool} (h : l[j]? = some x) (hb : (l.take j).any p = b) {d : Bool} (hd : p x = d) : (l.take (j + 1)).any p = (b || d) := by
  rw [take_snoc h, List.any_append, hb]; simp [hd]
theorem anyT_all {p : ByteArray → Bool} {l : List ByteArray} {n j : Nat} (hl : l.length = n) (hj : ¬ j < n) {b : Bool} (hb : (l.take j).any p = b) : l.any p = b := by rwa [List.take_of_length_le (by omega)] at hb
set_option maxRecDepth 10000 in
set_option maxHeartbeats 400000 in
theorem sHasText (v : Value) (l : List ByteArray) (x : ByteArray) (b : Bool) (w : World) (h : Strs w v l) (hb : hasText l x = b) :
    Calls Try.prog 95 #[v, .string x] w fun e w' => e = .returned (.bool b) ∧ w' = w := by
  obtain ⟨a, n, cap, rfl, HL, hn, HC⟩ := h.open
  have HB := Lib.hid hb; clear hb h
  go_enter Try.func95, Try.ntmps95
  go_wp2
  go_loop [5] (fun i => ∃ j : Nat, j ≤ n ∧ i = .int .i64 j ∧ Hid ((l.take j).any (eqT x) = false)) (fun i => n - (intOf i).toNat)
  case atStart => exact ⟨0, Nat.zero_le _, rfl, Lib.hid (by simp)⟩
  case round =>
    obtain ⟨j, hj, rfl, HT⟩ := hrel
    by_cases hlt : j < n
    · obtain ⟨b0, off, u, rfl, hc, HX⟩ := HC.out j hlt
      by_cases hux : u = x
      · have HO : Hid (b = true) := Lib.hid (by rw [← HB.out, hasText_eq]; exact anyT_yes HX.out (decide_eq_true hux))
        subst hux
        go_wp2
        go_ret
        exact ⟨ret_bool HO.out.symm, rfl⟩
      · have HO := Lib.hid (anyT_no HX.out HT.out (show eqT x u = false from decide_eq_false hux))
        have hne := beq_toList_ne hux
        go_wp2
        go_round
        case rel => exact ⟨j + 1, by omega, by go_num, HO⟩
        case measure => simp [intOf]; omega
    · have HO : Hid (b = false) := Lib.hid (by rw [← HB.out, hasText_eq]; exact anyT_end HL.out hlt HT.out)
      go_wp2
      go_ret
      exact ⟨ret_bool HO.out.symm, rfl⟩
set_option maxRecDepth 10000 in
set_option maxHeartbeats 800000 in
theorem ihas (k : Nat) (c : Int) (v : Value) (l : List ByteArray) (vs : Value) (x : ByteArray) (w : World) (hm : Ml w) (h : Strs w v l) (hS : Strs w vs (pairs k l)) (hx : x.size ≤ 1048576) :
    Calls Try.prog 72 #[.agg #[.int .i64 c, v], vs, .string x] w fun e w' => e = .returned (.bool (inL k l x)) ∧ Below w.heap.size w w' := by
  have hb0 := below_alloc w (.cells #[.int .i64 c, v] 30)
  have c0 : (w.alloc (.cells #[.int .i64 c, v] 30)).cell? ⟨w.heap.size, 0, none⟩ = some (.int .i64 c) := by simp
  have c1 : (w.alloc (.cells #[.int .i64 c, v] 30)).cell? ⟨w.heap.size, 1, none⟩ = some v := by simp
  have HPS : Hid (∀ u ∈ pairs k l, u.size = 2) := Lib.hid fun u hu => (pairs_in hu).1
  obtain ⟨av, nv, cv, rfl, -⟩ := h.open
  by_cases hs2 : (x.size : Int) < 2
  · have HI := Lib.hid (inL_small (k := k) (f := l) (x := x) (by omega))
    obtain ⟨a, n, cap, rfl, HL, hn, HC⟩ := hS.open
    obtain ⟨mx, hmx⟩ := hm.keep hb0
    clear h hS c0 c1
    go_enter Try.func72, Try.ntmps72
    go_wp2
    go_loop [18] (fun i => ∃ j : Nat, j ≤ n ∧ i = .int .i64 j ∧ Hid (((pairs k l).take j).any (fun u => occ u x) = false)) (fun i => n - (intOf i).toNat)
    case atStart => exact ⟨0, Nat.zero_le _, rfl, Lib.hid (by simp)⟩
    case round =>
      obtain ⟨j, hj, rfl, HT⟩ := hrel
      by_cases hlt : j < n
      · obtain ⟨b0, off, u, rfl, hcu, HX⟩ := HC.out j hlt
        have hc' := fun o => cell_keep (below_alloc w o) hcu
        have hus : u.size < 4294967281 := by rw [HPS.out u (List.mem_of_getElem? HX.out)]; omega
        clear hcu
        cases ho : occ u x
        · have HO := Lib.hid ho
          have HN := Lib.hid (anyT_no (p := fun u => occ u x) HX.out HT.out ho); clear ho
          go_wp2_with (go_at_call 83; refine (Try.strings_Contains u x mx _ hus hmx).mono ?_; rintro e w' ⟨rfl, rfl⟩; rw [show Lib.contains u.data.toList x.data.toList = false from HO.out])
          go_round
          case rel => exact ⟨j + 1, by omega, by go_num, HN⟩
          case measure => simp [intOf]; omega
        · have HO := Lib.hid ho
          have HN := Lib.hid (anyT_yes (p := fun u => occ u x) HX.out ho); clear ho
          go_wp2_with (go_at_call 83; refine (Try.strings_Contains u x mx _ hus hmx).mono ?_; rintro e w' ⟨rfl, rfl⟩; rw [show Lib.contains u.data.toList x.data.toList = true from HO.out])
          go_ret
          exact ⟨ret_bool (by rw [HI.out, HN.out]), hb0⟩
      · have HN := Lib.hid (anyT_end HL.out hlt HT.out)
        go_wp2
        go_ret
        exact ⟨ret_bool (by rw [HI.out, HN.out]), hb0⟩
  have hs2' : 2 ≤ x.size := by omega
  cases hA : avo l x
  · have HI := Lib.hid (inL_no (k := k) hA)
    have HA := Lib.hid hA
    clear hA
    obtain ⟨a, n, cap, rfl, -⟩ := hS.open
    go_enter Try.func72, Try.ntmps72
    go_wp2_with fail
    refine (iavoids c _ l x _ (hm.keep hb0) (h.keep hb0) hx).mono ?_
    rintro e w2 ⟨rfl, hb2⟩
    rw [HA.out]
    go_wp2
    go_ret
    exact ⟨ret_bool HI.out.symm, hb0.trans (hb2.mono hb0.size)⟩
  · have HI := Lib.hid (inL_big (k := k) hs2' hA)
    have HA := Lib.hid hA
    clear hA
    obtain ⟨a, n, cap, rfl, HL, hn, -⟩ := hS.open
    have hw2 : IntKind.i64.wrap ((x.size : Int) - 2) = ((x.size - 2 : Nat) : Int) := by rw [IntKind.wrap_i64]; omega
    have hle : x.size - 2 ≤ x.size := by omega
    have hle2 : ((x.size - 2 : Nat) : Int) ≤ (x.size : Int) := by omega
    have hle3 : (0 : Int) ≤ ((x.size - 2 : Nat) : Int) := by omega
    obtain ⟨X1, hX1⟩ : ∃ X1, x.extract 0 2 = X1 := ⟨_, rfl⟩
    obtain ⟨X2, hX2⟩ : ∃ X2, x.extract (x.size - 2) x.size = X2 := ⟨_, rfl⟩
    rw [hX1, hX2] at HI
    go_enter Try.func72, Try.ntmps72
    go_wp2_with fail
    refine (iavoids c _ l x _ (hm.keep hb0) (h.keep hb0) hx).mono ?_
    rintro e w2 ⟨rfl, hb2⟩
    rw [HA.out]
    have b2 := hb0.trans (hb2.mono hb0.size)
    obtain ⟨a3, n3, c3, hv3, -, -, HC⟩ := (hS.keep b2).open
    cases hv3
    clear hb2 hb0 c0 c1 hS h hm
    go_wp2
    go_loop [9, 10, 32] (fun p q i => ∃ (j : Nat) (f g : Bool), j ≤ n ∧ i = .int .i64 j ∧ p = .bool f ∧ q = .bool g ∧ Hid (((pairs k l).take j).any (eqT X1) = f) ∧ Hid (((pairs k l).take j).any (eqT X2) = g)) (fun _ _ i => n - (intOf i).toNat)
    case atStart => exact ⟨0, false, false, Nat.zero_le _, rfl, rfl, rfl, Lib.hid (by simp), Lib.hid (by simp)⟩
    case round =>
      obtain ⟨j, f, g, hj, rfl, rfl, rfl, HF, HG⟩ := hrel
      by_cases hlt : j < n
      · obtain ⟨b0, off, u, rfl, hcu, HX⟩ := HC.out j hlt
        obtain ⟨d1, hd1⟩ : ∃ d, eqT X1 u = d := ⟨_, rfl⟩
        obtain ⟨d2, hd2⟩ : ∃ d, eqT X2 u = d := ⟨_, rfl⟩
        have HF2 := Lib.hid (anyT_step HX.out HF.out hd1)
        have HG2 := Lib.hid (anyT_step HX.out HG.out hd2)
        have hq1 : (u.toList == X1.toList) = d1 := by rw [beqS, ← hd1]; rfl
        have hq2 : (u.toList == X2.toList) = d2 := by rw [beqS, ← hd2]; rfl
        clear hd1 hd2
        cases f <;> cases g <;> (
          go_wp2
          go_round
          (case rel => exact ⟨j + 1, _, _, by omega, by go_num, rfl, rfl, by simpa using HF2, by simpa using HG2⟩)
          (case measure => simp [intOf]; omega))
      · have HF2 := Lib.hid (anyT_all HL.out hlt HF.out)
        have HG2 := Lib.hid (anyT_all HL.out hlt HG.out)
        cases f <;> cases g <;> (
          go_wp2
          go_ret
          exact ⟨ret_bool (by rw [HI.out, hasText_eq, hasText_eq, HF2.out, HG2.out]; rfl), b2⟩)
end Go.Proofs.Ytidfnhoeaofgeaa
