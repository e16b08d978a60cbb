/- The reference's draws: the cursor, a byte, a number below another, a pick. No statement is proved here. -/
import Derived.Test.YtkohadoicebojaaGreatDoorMem
import Derived.Test.YtkohadoicebojaaGreatDoorStr
import Derived.Test.YtkohadoicebojaaGreatDoorStrsH
import Derived.WalkKit
import Derived.WalkSpells
import Derived.WalkLawsBesides
import Derived.BigQuiet
import Derived.Deep.QuietTactic
import Derived.Deep.OwnRows
import Derived.Laws.Entries
import Derived.Lib.SmallJoins
namespace Go.Proofs.YtkohadoicebojaaGreatDoor
open Go.RowKit Go.Deep
def BytesV (w : World) (v : Value) (l : List UInt8) : Prop := Row w v (bv l)
def curF (v : Value) (i : Nat) (h : Int) : Nat → Value := fun j => if j = 0 then v else if j = 1 then .int .i64 i else .int .i64 h
/-- The cursor in block N: the code, how far it is read, a number. -/
def Cur (w0 : World) (N : Nat) (v : Value) (n : Nat) (w : World) : Prop :=
  w0.heap.size ≤ N ∧ Below w0.heap.size w0 w ∧ ∃ (i : Nat) (h : Int), i ≤ n ∧ w.rowIs N 94 3 (curF v i h)
theorem Cur.keep {w0 w w' : World} {N n : Nat} {v : Value} (h : Cur w0 N v n w) (hb : Below w.heap.size w w') : Cur w0 N v n w' := by
  obtain ⟨h1, h2, i, k, h3, h4⟩ := h
  exact ⟨h1, h2.trans (hb.mono h2.size), i, k, h3, h4.of_block (hb.block N h4.lt)⟩
theorem and_bd (x : Int) : ∃ r : Nat, bits .and .i64 x 255 = (r : Int) ∧ r ≤ 255 := by
  refine ⟨(BitVec.ofInt 64 x &&& BitVec.ofInt 64 255).toNat, ?_, ?_⟩
  · have hle : (BitVec.ofInt 64 x &&& BitVec.ofInt 64 255).toNat ≤ 255 := by
      rw [BitVec.toNat_and]; exact Nat.and_le_right
    show IntKind.i64.wrap ((BitVec.ofInt 64 x &&& BitVec.ofInt 64 255).toNat : Int) = _
    generalize (BitVec.ofInt 64 x &&& BitVec.ofInt 64 255).toNat = q at hle ⊢
    rw [IntKind.wrap_i64]; omega
  · rw [BitVec.toNat_and]; exact Nat.and_le_right
theorem grow_set (w : World) (N k : Nat) (u : Value) : w.grownBy (w.setCell ⟨N, k, none⟩ u) (some N) :=
  ⟨rfl, rfl, rfl, by simp, fun j _ hne => blk_setCell_other w _ u j (fun e => hne (by rw [e]))⟩
theorem grow_drew (w : World) (n : Nat) (b : Option Nat) : w.grownBy (w.drewN n) b := ⟨rfl, rfl, rfl, Nat.le_refl _, fun _ _ _ => rfl⟩
set_option maxRecDepth 10000 in
set_option maxHeartbeats 400000 in
theorem l1Byte (w0 : World) (N n : Nat) (v : Value) (l : List UInt8) (w : World) (hv : BytesV w0 v l) (hl : l.length = n) (hC : Cur w0 N v n w) :
    Calls Tryz.prog 101 #[.pointer (some ⟨N, 0, none⟩)] w fun e w' => ∃ x : Nat, e = .returned (.int .i64 x) ∧ x ≤ 255 ∧ Cur w0 N v n w' ∧ w.grownBy w' (some N) := by
  obtain ⟨hN, hb, i, h, hi, hr⟩ := hC
  obtain ⟨z, hz⟩ : ∃ z, wrap64 (wrap64 (h * 6364136223846793005) + 1442695040888963407) = z := ⟨_, rfl⟩
  obtain ⟨x, hx, hx2⟩ := and_bd (bits .xor .i64 (z / 8589934592) (z / 35184372088832))
  have c2 : w.cell? ⟨N, 2, none⟩ = some (.int .i64 h) := hr.cell (i := 2) (by omega)
  have f2 := hr.frozen 2
  have hr1 := hr.set 2 (.int .i64 z)
  have hb1 : Below w0.heap.size w0 (w.setCell ⟨N, 2, none⟩ (.int .i64 z)) := hb.setCell hN _
  have hg1 := grow_set w N 2 (.int .i64 z)
  have d2 : (w.setCell ⟨N, 2, none⟩ (.int .i64 z)).cell? ⟨N, 2, none⟩ = some (.int .i64 z) := hr1.cell (i := 2) (by omega)
  obtain ⟨a, cap, rfl, hn, HC⟩ := Row.open hv
  have hlen : (bv l).length = n := by rw [bv_length, hl]
  rw [hlen] at hr hr1 hn ⊢
  clear hr
  obtain ⟨w1, hw1⟩ : ∃ w1, w.setCell ⟨N, 2, none⟩ (.int .i64 z) = w1 := ⟨_, rfl⟩
  rw [hw1] at hr1 hb1 hg1 d2
  have d0 : w1.cell? ⟨N, 0, none⟩ = some (.slice a n cap) := hr1.cell (i := 0) (by omega)
  have d1 : w1.cell? ⟨N, 1, none⟩ = some (.int .i64 i) := hr1.cell (i := 1) (by omega)
  have g1 := hr1.frozen 1
  go_enter Tryz.func101, Tryz.ntmps101
  go_wp2
  go_quiet (fail)
  go_wp2
  go_quiet (fail)
  by_cases hin : i < n
  · obtain ⟨b, off, e1, hcell⟩ := HC.out i (by rw [hlen]; exact hin)
    subst e1
    obtain ⟨c, hc⟩ : ∃ c, l[i]'(by omega) = c := ⟨_, rfl⟩
    have hcv : (bv l)[i]'(by rw [hlen]; exact hin) = .int .u8 (c.toNat : Int) := by simp [bv, hc]
    rw [hcv] at hcell
    have hcell1 := cell_keep hb1 hcell
    have hcb : (c.toNat : Int) < 256 := by have := c.toNat_lt; omega
    obtain ⟨y, hy, hy2⟩ := and_bd ((x : Int) + (c.toNat : Int))
    have hr2 := hr1.set 1 (.int .i64 ((i : Int) + 1))
    go_wp2
    go_quiet (fail)
    go_wp2
    go_ret
    exact ⟨y, rfl, hy2, ⟨hN, (hb1.trans (Go.Joins.below_draws _ _ _)).setCell hN _, i + 1, z, by omega, ((World.rowIs.of_block hr1 rfl).set 1 _).congr fun j hj => by
      have : j = 0 ∨ j = 1 ∨ j = 2 := by omega
      rcases this with rfl | rfl | rfl <;> simp [curF]⟩, (hg1.trans (grow_drew _ _ _)).trans (grow_set _ _ _ _)⟩
  · go_wp2
    go_ret
    exact ⟨x, rfl, hx2, ⟨hN, (hb1.trans (Go.Joins.below_draws _ _ _)).trans (Go.Joins.below_draws _ _ _), i, z, hi, (hr1.of_block rfl).congr fun j hj => by
      have : j = 0 ∨ j = 1 ∨ j = 2 := by omega
      rcases this with rfl | rfl | rfl <;> rfl⟩, (hg1.trans (grow_drew _ _ _)).trans (grow_drew _ _ _)⟩
set_option maxRecDepth 10000 in
set_option maxHeartbeats 400000 in
theorem l1Below (w0 : World) (N n : Nat) (v : Value) (l : List UInt8) (w : World) (hv : BytesV w0 v l) (hl : l.length = n) (hC : Cur w0 N v n w) (m : Nat) (hm : 1 ≤ m) (hm2 : m ≤ 4000000000) :
    Calls Tryz.prog 56 #[.pointer (some ⟨N, 0, none⟩), .int .i64 m] w fun e w' => ∃ x : Nat, e = .returned (.int .i64 x) ∧ x < m ∧ Cur w0 N v n w' ∧ w.grownBy w' (some N) := by
  by_cases h256 : m ≤ 256
  · go_enter Tryz.func56, Tryz.ntmps56
    go_wp2_with fail
    refine (l1Byte w0 N n v l _ hv hl hC).mono ?_
    rintro e w1 ⟨x, rfl, hx, hC1, hg1⟩
    obtain ⟨r, hr⟩ : ∃ r, x % m = r := ⟨_, rfl⟩
    have hrm : r < m := by rw [← hr]; exact Nat.mod_lt _ (by omega)
    have hmod : (x : Int) % (m : Int) = (r : Int) := by rw [← Int.natCast_emod, hr]
    have hmod2 : Int.tmod (x : Int) (m : Int) = (r : Int) := by rw [Int.tmod_eq_emod_of_nonneg (by omega), hmod]
    go_wp2
    go_ret
    exact ⟨r, rfl, hrm, hC1, hg1⟩
  · go_enter Tryz.func56, Tryz.ntmps56
    go_wp2_with fail
    refine (l1Byte w0 N n v l _ hv hl hC).mono ?_
    rintro e w1 ⟨x, rfl, hx, hC1, hg1⟩
    go_wp2_with fail
    refine (l1Byte w0 N n v l _ hv hl hC1).mono ?_
    rintro e w2 ⟨y, rfl, hy, hC2, hg2⟩
    go_wp2_with fail
    refine (l1Byte w0 N n v l _ hv hl hC2).mono ?_
    rintro e w3 ⟨z, rfl, hz, hC3, hg3⟩
    go_wp2_with fail
    refine (l1Byte w0 N n v l _ hv hl hC3).mono ?_
    rintro e w4 ⟨u, rfl, hu, hC4, hg4⟩
    obtain ⟨s, hs⟩ : ∃ s, x * 16777216 + y * 65536 + z * 256 + u = s := ⟨_, rfl⟩
    have hs2 : s ≤ 4294967295 := by omega
    have hsI : (x : Int) * 16777216 + (y : Int) * 65536 + (z : Int) * 256 + (u : Int) = (s : Int) := by omega
    obtain ⟨r, hr⟩ : ∃ r, s % m = r := ⟨_, rfl⟩
    have hrm : r < m := by rw [← hr]; exact Nat.mod_lt _ (by omega)
    have hmod : (s : Int) % (m : Int) = (r : Int) := by rw [← Int.natCast_emod, hr]
    have hmod2 : Int.tmod (s : Int) (m : Int) = (r : Int) := by rw [Int.tmod_eq_emod_of_nonneg (by omega), hmod]
    clear hs
    go_wp2
    go_ret
    exact ⟨r, rfl, hrm, hC4, ((hg1.trans hg2).trans hg3).trans hg4⟩
set_option maxRecDepth 10000 in
set_option maxHeartbeats 400000 in
theorem l1Pick (w0 : World) (N n : Nat) (v : Value) (l : List UInt8) (w : World) (hv : BytesV w0 v l) (hl : l.length = n) (hC : Cur w0 N v n w) (u : Nat) (hu : u ≠ N) (L : List ByteArray) (m : Nat) (hL : L.length = m) (hm : 1 ≤ m) (hm2 : m ≤ 1000)
    (hc : ∀ j x, L[j]? = some x → w.cell? ⟨u, j, none⟩ = some (.string x)) (cap : Nat) :
    Calls Tryz.prog 103 #[.pointer (some ⟨N, 0, none⟩), .slice (some ⟨u, 0, none⟩) m cap] w fun e w' => ∃ x, e = .returned (.string x) ∧ x ∈ L ∧ Cur w0 N v n w' ∧ w.grownBy w' (some N) := by
  have HC := Lib.hid hc; clear hc
  go_enter Tryz.func103, Tryz.ntmps103
  go_wp2_with fail
  refine (l1Below w0 N n v l _ hv hl hC m hm (by omega)).mono ?_
  rintro e w1 ⟨j, rfl, hj, hC1, hg1⟩
  obtain ⟨x, hx⟩ : ∃ x, L[j]? = some x := ⟨_, List.getElem?_eq_getElem (by omega)⟩
  have hcell : w1.cell? ⟨u, j, none⟩ = some (.string x) := hg1.cell (HC.out j x hx) (fun e => hu (Option.some.inj e))
  have hmem := List.mem_of_getElem? hx
  go_wp2
  go_ret
  exact ⟨x, rfl, hmem, hC1, hg1⟩
set_option maxRecDepth 10000 in
set_option maxHeartbeats 400000 in
theorem l1PickInt (w0 : World) (N n : Nat) (v : Value) (l : List UInt8) (w : World) (hv : BytesV w0 v l) (hl : l.length = n) (hC : Cur w0 N v n w) (u : Nat) (hu : u ≠ N) (L : List Int) (m : Nat) (hL : L.length = m) (hm : 1 ≤ m) (hm2 : m ≤ 1000)
    (hc : ∀ j x, L[j]? = some x → w.cell? ⟨u, j, none⟩ = some (.int .i64 x)) (cap : Nat) :
    Calls Tryz.prog 57 #[.pointer (some ⟨N, 0, none⟩), .slice (some ⟨u, 0, none⟩) m cap] w fun e w' => ∃ x, e = .returned (.int .i64 x) ∧ x ∈ L ∧ Cur w0 N v n w' ∧ w.grownBy w' (some N) := by
  have HC := Lib.hid hc; clear hc
  go_enter Tryz.func57, Tryz.ntmps57
  go_wp2_with fail
  refine (l1Below w0 N n v l _ hv hl hC m hm (by omega)).mono ?_
  rintro e w1 ⟨j, rfl, hj, hC1, hg1⟩
  obtain ⟨x, hx⟩ : ∃ x, L[j]? = some x := ⟨_, List.getElem?_eq_getElem (by omega)⟩
  have hcell : w1.cell? ⟨u, j, none⟩ = some (.int .i64 x) := hg1.cell (HC.out j x hx) (fun e => hu (Option.some.inj e))
  have hmem := List.mem_of_getElem? hx
  go_wp2
  go_ret
  exact ⟨x, rfl, hmem, hC1, hg1⟩
set_option maxRecDepth 100000 in
set_option maxHeartbeats 400000 in
theorem l1New (v : Value) (l : List UInt8) (w : World) (hv : BytesV w v l) :
    Calls Tryz.prog 54 #[v] w fun e w' => ∃ N, e = .returned (.pointer (some ⟨N, 0, none⟩)) ∧ Cur w N v l.length w' ∧ Below w.heap.size w w' := by
  obtain ⟨n, hl⟩ : ∃ n, l.length = n := ⟨_, rfl⟩
  obtain ⟨a, cap, rfl, hn, HC⟩ := Row.open hv
  have hlen : (bv l).length = n := by rw [bv_length, hl]
  have HL := Lib.hid hlen
  rw [hl]
  rw [hlen] at hn ⊢
  go_enter Tryz.func54, Tryz.ntmps54
  go_wp2
  go_loop [3, 4] (fun q i => ∃ (j : Nat) (h : Int), j ≤ n ∧ i = .int .i64 j ∧ q = .int .i64 h) (fun _ i => n - (intOf i).toNat)
  case atStart => exact ⟨0, _, Nat.zero_le _, rfl, rfl⟩
  case round =>
    obtain ⟨j, h, hj, rfl, rfl⟩ := hrel
    have fin : Cur w w.heap.size (.slice a n cap) n (w.alloc (.cells #[.slice a n cap, .int .i64 0, .int .i64 h] 94)) := ⟨Nat.le_refl _, below_alloc _ _, 0, h, Nat.zero_le _, World.rowIs_alloc w #[.slice a n cap, .int .i64 0, .int .i64 h] _ _ fun i hi => by
      have : i = 0 ∨ i = 1 ∨ i = 2 := by simp at hi; omega
      rcases this with rfl | rfl | rfl <;> rfl⟩
    by_cases hlt : j < n
    · by_cases h4 : (j : Int) < 4000
      · obtain ⟨b, off, e1, hcell⟩ := HC.out j (by rw [HL.out]; exact hlt)
        subst e1
        obtain ⟨c, hc⟩ : ∃ c, l[j]'(by omega) = c := ⟨_, rfl⟩
        have hcv : (bv l)[j]'(by rw [HL.out]; exact hlt) = .int .u8 (c.toNat : Int) := by simp [bv, hc]
        rw [hcv] at hcell
        have hcb : (c.toNat : Int) < 256 := by have := c.toNat_lt; omega
        clear fin
        go_wp2
        go_round
        case rel => exact ⟨j + 1, _, by omega, by go_num, rfl⟩
        case measure => simp [intOf]; omega
      · go_wp2
        go_ret
        exact ⟨_, rfl, fin, below_alloc _ _⟩
    · go_wp2
      go_ret
      exact ⟨_, rfl, fin, below_alloc _ _⟩
end Go.Proofs.YtkohadoicebojaaGreatDoor
