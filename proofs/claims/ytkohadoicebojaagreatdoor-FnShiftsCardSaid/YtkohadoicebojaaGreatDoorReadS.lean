/- ParseInt and ParseNumber, the reference's; the program's on top of its reader. No statement is proved here. -/
import Derived.Test.YtkohadoicebojaaGreatDoorRead
namespace Go.Proofs.YtkohadoicebojaaGreatDoor
open Go.RowKit Go.Deep
def RdE (lo hi : Int) (s : ByteArray) (w : World) (e : Ending) (w' : World) : Prop := ∃ n b, e = .returned (.tuple #[.int .i64 n, .bool b]) ∧ Hid (Rd lo hi s n b) ∧ Below w.heap.size w w'
theorem rdE {lo hi : Int} {s : ByteArray} {w w' : World} {e : Ending} {n : Int} {b : Bool} (h : e = .returned (.tuple #[.int .i64 n, .bool b])) (k : Hid (Rd lo hi s n b)) (hb : Below w.heap.size w w') : RdE lo hi s w e w' := ⟨n, b, h, k, hb⟩
set_option maxRecDepth 10000 in
set_option maxHeartbeats 400000 in
theorem sRead (s : ByteArray) (k : Nat) (hi : Int) (w : World) (hs : s.size ≤ 1048576) (hk1 : 1 ≤ k) (hk : k ≤ 12) (hhi : hi + 1 = (10 ^ k : Nat)) :
    Calls Tryz.prog 106 #[.string s, .int .i64 k] w (RdE (-hi) hi s w) := by
  have hh : hi < (10 ^ k : Nat) := by omega
  have HHI := Lib.hid hhi; clear hhi
  by_cases hs0 : s.size = 0
  · have HR : Hid (Rd (-hi) hi s 0 false) := Lib.hid (.inr ⟨rfl, rfl, rd_len hk1 hh (.inl (by
      have : bts s = [] := List.length_eq_zero_iff.1 (by rw [bts_length]; exact hs0)
      unfold tl; rw [this]; split <;> simp))⟩)
    clear hh
    go_enter Tryz.func106, Tryz.ntmps106
    go_wp2
    go_ret2
    exact rdE rfl HR (Below.refl _ _)
  obtain ⟨c0, hc0, HC0, hcb⟩ := byte_at (show 0 < s.size by omega)
  have hspos : 0 < s.size := by omega
  by_cases hm : (c0.toNat : Int) = 45
  · have hmb : ((c0.toNat : Int) == 45) = true := beq_iff_eq.2 hm
    have HN : Hid (ngs s = true) := Lib.hid (by
      unfold ngs
      have e : c0 = 45 := UInt8.toNat_inj.1 (by show c0.toNat = 45; omega)
      have := HC0.out
      rw [e] at this
      rw [List.head?_eq_getElem?, this]; rfl)
    obtain ⟨T, hT⟩ : ∃ T, s.extract 1 s.size = T := ⟨_, rfl⟩
    have HTL : Hid (bts T = tl s) := Lib.hid (by
      unfold tl
      rw [HN.out, if_pos rfl, ← hT, bts_extract, List.take_of_length_le (by rw [bts_length]; exact Nat.le_refl _), List.drop_one])
    have HTS : Hid (T.size = (tl s).length) := Lib.hid (by rw [← HTL.out, bts_length])
    have hTs : T.size ≤ 1048576 := by rw [← hT]; simp [ByteArray.size_extract]; omega
    by_cases hl1 : T.size < 1
    · have HR : Hid (Rd (-hi) hi s 0 false) := Lib.hid (.inr ⟨rfl, rfl, rd_len hk1 hh (.inl (by rw [← HTS.out]; exact hl1))⟩)
      go_enter Tryz.func106, Tryz.ntmps106
      go_wp2
      go_ret2
      exact rdE rfl HR (Below.refl _ _)
    by_cases hl2 : k < T.size
    · have HR : Hid (Rd (-hi) hi s 0 false) := Lib.hid (.inr ⟨rfl, rfl, rd_len hk1 hh (.inr (by rw [← HTS.out]; exact hl2))⟩)
      go_enter Tryz.func106, Tryz.ntmps106
      go_wp2
      go_ret2
      exact rdE rfl HR (Below.refl _ _)
    clear hh
    go_enter Tryz.func106, Tryz.ntmps106
    go_wp2
    go_loop [8, 9] (fun nn i => ∃ (j q : Nat), j ≤ T.size ∧ i = .int .i64 j ∧ nn = .int .i64 q ∧ q < 1000000000000 ∧ Hid (q = val ((tl s).take j) ∧ q < 10 ^ j)) (fun _ i => T.size - (intOf i).toNat)
    case atStart => exact ⟨0, 0, Nat.zero_le _, rfl, rfl, by omega, Lib.hid ⟨rfl, Nat.one_pos⟩⟩
    case round =>
      obtain ⟨j, q, hj, rfl, rfl, hq, HQ⟩ := hrel
      by_cases hlt : j < T.size
      · obtain ⟨c, hc, HC, hc2⟩ := byte_at hlt
        have HC2 : Hid ((tl s)[j]? = some c) := Lib.hid (by rw [← HTL.out]; exact HC.out)
        by_cases h1 : (c.toNat : Int) < 48
        · have HR : Hid (Rd (-hi) hi s 0 false) := Lib.hid (.inr ⟨rfl, rfl, rd_bad HC2.out (by unfold isDg; omega)⟩)
          go_wp2
          go_ret2
          exact rdE rfl HR (Below.refl _ _)
        by_cases h2 : 57 < (c.toNat : Int)
        · have HR : Hid (Rd (-hi) hi s 0 false) := Lib.hid (.inr ⟨rfl, rfl, rd_bad HC2.out (by unfold isDg; omega)⟩)
          go_wp2
          go_ret2
          exact rdE rfl HR (Below.refl _ _)
        have HS := val_take_lt (l := tl s) (j := j) (c := c) (by have := HQ.out; rw [← this.1]; exact this.2) HC2.out (by unfold isDg; omega)
        rw [← HQ.out.1] at HS
        obtain ⟨z, hz⟩ : ∃ z, q * 10 + (c.toNat - 48) = z := ⟨_, rfl⟩
        rw [hz] at HS
        have HZ : Hid (z = val ((tl s).take (j + 1)) ∧ z < 10 ^ (j + 1)) := Lib.hid ⟨HS.1.symm, by have := HS.2; rw [HS.1] at this; exact this⟩
        have hz2 : z < 1000000000000 := Nat.lt_of_lt_of_le HZ.out.2 (Nat.le_trans (Nat.pow_le_pow_right (by omega) (show j + 1 ≤ 12 by omega)) (by decide))
        clear HS
        go_wp2
        go_round
        case rel => exact ⟨j + 1, z, by omega, by go_num, by go_num, hz2, HZ⟩
        case measure => simp [intOf]; omega
      · have e : j = T.size := by omega
        have HV : Hid (q = val (tl s) ∧ q < 10 ^ k) := Lib.hid ⟨by have := HQ.out.1; rw [e, HTS.out, List.take_of_length_le (Nat.le_refl _)] at this; exact this, Nat.lt_of_lt_of_le HQ.out.2 (Nat.pow_le_pow_right (by omega) (by omega))⟩
        obtain ⟨F, hF⟩ : ∃ F, fmtI (-(q : Int)) = F := ⟨_, rfl⟩
        have HE := Lib.hid (rd_end (s := s) (v := -(q : Int)) HHI.out (by rw [HN.out, ← HV.out.1]; rfl) (by rw [← HV.out.1]; exact HV.out.2) hF)
        have key := Lib.hid (fun w1 => sFormatInt (-(q : Int)) w1 (by omega) (by omega))
        rw [hF] at key
        clear hF
        by_cases h3 : F = s
        · have HR := Lib.hid (HE.out.1 h3)
          have hq2 : (F.toList == s.toList) = true := by rw [h3]; exact beq_self_eq_true _
          have hq3 := bneX0 h3
          go_wp2_with fail
          refine (key.out _).mono ?_
          rintro e w2 ⟨rfl, b2⟩
          go_wp2
          go_ret2
          exact rdE rfl HR b2
        · have HR := Lib.hid (HE.out.2 h3)
          have hq3 := bneX h3
          have hq2 : (F.toList == s.toList) = false := beq_eq_false_iff_ne.2 fun e => h3 (toListX_inj e)
          go_wp2_with fail
          refine (key.out _).mono ?_
          rintro e w2 ⟨rfl, b2⟩
          go_wp2
          go_ret2
          exact rdE rfl HR b2
  · have hmb : ((c0.toNat : Int) == 45) = false := beq_eq_false_iff_ne.2 hm
    have HN : Hid (ngs s = false) := Lib.hid (by
      unfold ngs
      rw [List.head?_eq_getElem?, HC0.out]
      refine beq_eq_false_iff_ne.2 fun e => hm ?_
      have := Option.some.inj e
      rw [this]; rfl)
    obtain ⟨T, hT⟩ : ∃ T, s = T := ⟨_, rfl⟩
    have HTL : Hid (bts T = tl s) := Lib.hid (by
      unfold tl
      rw [HN.out, ← hT]; rfl)
    have HTS : Hid (T.size = (tl s).length) := Lib.hid (by rw [← HTL.out, bts_length])
    subst hT
    by_cases hl1 : s.size < 1
    · omega
    by_cases hl2 : k < s.size
    · have HR : Hid (Rd (-hi) hi s 0 false) := Lib.hid (.inr ⟨rfl, rfl, rd_len hk1 hh (.inr (by rw [← HTS.out]; exact hl2))⟩)
      go_enter Tryz.func106, Tryz.ntmps106
      go_wp2
      go_ret2
      exact rdE rfl HR (Below.refl _ _)
    clear hh
    go_enter Tryz.func106, Tryz.ntmps106
    go_wp2
    go_loop [8, 9] (fun nn i => ∃ (j q : Nat), j ≤ s.size ∧ i = .int .i64 j ∧ nn = .int .i64 q ∧ q < 1000000000000 ∧ Hid (q = val ((tl s).take j) ∧ q < 10 ^ j)) (fun _ i => s.size - (intOf i).toNat)
    case atStart => exact ⟨0, 0, Nat.zero_le _, rfl, rfl, by omega, Lib.hid ⟨rfl, Nat.one_pos⟩⟩
    case round =>
      obtain ⟨j, q, hj, rfl, rfl, hq, HQ⟩ := hrel
      by_cases hlt : j < s.size
      · obtain ⟨c, hc, HC, hc2⟩ := byte_at hlt
        have HC2 : Hid ((tl s)[j]? = some c) := Lib.hid (by rw [← HTL.out]; exact HC.out)
        by_cases h1 : (c.toNat : Int) < 48
        · have HR : Hid (Rd (-hi) hi s 0 false) := Lib.hid (.inr ⟨rfl, rfl, rd_bad HC2.out (by unfold isDg; omega)⟩)
          go_wp2
          go_ret2
          exact rdE rfl HR (Below.refl _ _)
        by_cases h2 : 57 < (c.toNat : Int)
        · have HR : Hid (Rd (-hi) hi s 0 false) := Lib.hid (.inr ⟨rfl, rfl, rd_bad HC2.out (by unfold isDg; omega)⟩)
          go_wp2
          go_ret2
          exact rdE rfl HR (Below.refl _ _)
        have HS := val_take_lt (l := tl s) (j := j) (c := c) (by have := HQ.out; rw [← this.1]; exact this.2) HC2.out (by unfold isDg; omega)
        rw [← HQ.out.1] at HS
        obtain ⟨z, hz⟩ : ∃ z, q * 10 + (c.toNat - 48) = z := ⟨_, rfl⟩
        rw [hz] at HS
        have HZ : Hid (z = val ((tl s).take (j + 1)) ∧ z < 10 ^ (j + 1)) := Lib.hid ⟨HS.1.symm, by have := HS.2; rw [HS.1] at this; exact this⟩
        have hz2 : z < 1000000000000 := Nat.lt_of_lt_of_le HZ.out.2 (Nat.le_trans (Nat.pow_le_pow_right (by omega) (show j + 1 ≤ 12 by omega)) (by decide))
        clear HS
        go_wp2
        go_round
        case rel => exact ⟨j + 1, z, by omega, by go_num, by go_num, hz2, HZ⟩
        case measure => simp [intOf]; omega
      · have e : j = s.size := by omega
        have HV : Hid (q = val (tl s) ∧ q < 10 ^ k) := Lib.hid ⟨by have := HQ.out.1; rw [e, HTS.out, List.take_of_length_le (Nat.le_refl _)] at this; exact this, Nat.lt_of_lt_of_le HQ.out.2 (Nat.pow_le_pow_right (by omega) (by omega))⟩
        obtain ⟨F, hF⟩ : ∃ F, fmtI ((q : Int)) = F := ⟨_, rfl⟩
        have HE := Lib.hid (rd_end (s := s) (v := (q : Int)) HHI.out (by rw [HN.out, ← HV.out.1]; rfl) (by rw [← HV.out.1]; exact HV.out.2) hF)
        have key := Lib.hid (fun w1 => sFormatInt ((q : Int)) w1 (by omega) (by omega))
        rw [hF] at key
        clear hF
        by_cases h3 : F = s
        · have HR := Lib.hid (HE.out.1 h3)
          have hq2 : (F.toList == s.toList) = true := by rw [h3]; exact beq_self_eq_true _
          have hq3 := bneX0 h3
          go_wp2_with fail
          refine (key.out _).mono ?_
          rintro e w2 ⟨rfl, b2⟩
          go_wp2
          go_ret2
          exact rdE rfl HR b2
        · have HR := Lib.hid (HE.out.2 h3)
          have hq3 := bneX h3
          have hq2 : (F.toList == s.toList) = false := beq_eq_false_iff_ne.2 fun e => h3 (toListX_inj e)
          go_wp2_with fail
          refine (key.out _).mono ?_
          rintro e w2 ⟨rfl, b2⟩
          go_wp2
          go_ret2
          exact rdE rfl HR b2
set_option maxRecDepth 10000 in
set_option maxHeartbeats 400000 in
theorem sParseInt (s : ByteArray) (w : World) (hs : s.size ≤ 1048576) :
    Calls Tryz.prog 66 #[.string s] w (RdE (-999999999999) 999999999999 s w) := by
  have key := Lib.hid (sRead s 12 999999999999 w hs (by omega) (by omega) (by decide))
  go_enter Tryz.func66, Tryz.ntmps66
  go_wp2_with fail
  refine key.out.mono ?_
  rintro e w1 ⟨n, b, rfl, HR, b1⟩
  go_wp2
  go_ret2
  exact rdE rfl HR b1
set_option maxRecDepth 10000 in
set_option maxHeartbeats 400000 in
theorem iParseNumber (s : ByteArray) (w : World) (hs : s.size ≤ 1048576) (ht : Tb w) (hev : Ev w) :
    Calls Tryz.prog 81 #[.string s] w (RdE 0 999999 s w) := by
  have key := Lib.hid (iparse s 0 999999 w hs (by omega) (by omega) ht hev)
  go_enter Tryz.func81, Tryz.ntmps81
  go_wp2_with fail
  refine key.out.mono ?_
  rintro e w1 ⟨n, b, rfl, HR, b1⟩
  go_wp2
  go_ret2
  exact rdE rfl HR b1
end Go.Proofs.YtkohadoicebojaaGreatDoor
