/- OccursIn, the program's (by the library's contract) and the reference's. No statement is proved here. -/
import Derived.Test.YtkohadoicebojaaGreatDoorRows
import Derived.Test.YtkohadoicebojaaGreatDoorStr
import Derived.Test.YtkohadoicebojaaGreatDoorMl
import Derived.Test.YtkohadoicebojaaGreatDoorShelf
import Derived.WalkKit
import Derived.WalkSpells
import Derived.WalkLawsBesides
import Derived.BigQuiet
import Derived.Deep.QuietTactic
import Derived.Lib.IndexMore
namespace Go.Proofs.YtkohadoicebojaaGreatDoor
open Go.RowKit Go.Deep
def occ (s p : ByteArray) : Bool := Lib.contains s.data.toList p.data.toList
theorem occ_at {s p : ByteArray} {j : Nat} (_ : j + p.size ≤ s.size) : Lib.occAt s.data.toList p.data.toList j = ((s.extract j (j + p.size)).toList == p.toList) := by
  have e1 : (s.extract j (j + p.size)).toList = (s.data.toList.drop j).take p.size := by
    have h := bts_extract s j (j + p.size)
    rw [ByteArray.toList_eq]
    have h2 : (s.extract j (j + p.size)).data.toList = bts (s.extract j (j + p.size)) := rfl
    rw [h2, h]
    show List.drop j (List.take (j + p.size) s.data.toList) = _
    rw [List.drop_take, Nat.add_sub_cancel_left]
  have hl : p.data.toList.length = p.size := bts_length p
  rw [e1, ByteArray.toList_eq p, Bool.eq_iff_iff]
  unfold Lib.occAt
  rw [List.isPrefixOf_iff_prefix, List.prefix_iff_eq_take, hl]
  constructor
  · intro h; exact beq_iff_eq.2 h.symm
  · intro h; exact (beq_iff_eq.1 h).symm
theorem occ_room {s p : List UInt8} {j : Nat} (hj : j ≤ s.length) (h : Lib.occAt s p j = true) : j + p.length ≤ s.length := by
  unfold Lib.occAt at h
  rw [List.isPrefixOf_iff_prefix] at h
  have := h.length_le
  rw [List.length_drop] at this
  omega
theorem occ_yes {s p : ByteArray} {j : Nat} (hj : j + p.size ≤ s.size) (h : ((s.extract j (j + p.size)).toList == p.toList) = true) : occ s p = true := by
  rw [← occ_at hj] at h
  unfold occ Lib.contains
  rcases Lib.index_spec s.data.toList p.data.toList with ⟨_, h2⟩ | ⟨i, h1, _⟩
  · have hl : s.data.toList.length = s.size := bts_length s
    rw [h2 j (by omega)] at h; cases h
  · rw [h1]; exact decide_eq_true (by omega)
theorem occ_no {s p : ByteArray} {j : Nat} (hj : s.size < j + p.size) (h : Lib.NoOcc s.data.toList p.data.toList j) : occ s p = false := by
  have hl : s.data.toList.length = s.size := bts_length s
  have hp : p.data.toList.length = p.size := bts_length p
  unfold occ Lib.contains
  rcases Lib.index_spec s.data.toList p.data.toList with ⟨h1, _⟩ | ⟨i, h1, h2, h3, _⟩
  · rw [h1]; rfl
  · have := occ_room h2 h3
    rw [h i (by omega)] at h3; cases h3
theorem noOcc_next {s p : ByteArray} {j : Nat} (hj : j + p.size ≤ s.size) (h : Lib.NoOcc s.data.toList p.data.toList j) (hn : ((s.extract j (j + p.size)).toList == p.toList) = false) : Lib.NoOcc s.data.toList p.data.toList (j + 1) := by
  intro i hi
  by_cases e : i = j
  · subst e; rw [occ_at hj]; exact hn
  · exact h i (by omega)
set_option maxRecDepth 10000 in
set_option maxHeartbeats 400000 in
theorem sOccursIn (s p : ByteArray) (w : World) (hs : s.size ≤ 1048576) (hp : p.size ≤ 1048576) :
    Calls Tryz.prog 116 #[.string s, .string p] w fun e w' => e = .returned (.bool (occ s p)) ∧ w = w' := by
  go_enter Tryz.func116, Tryz.ntmps116
  go_wp2
  go_loop [5] (fun i => ∃ j : Nat, j ≤ s.size + 1 ∧ i = .int .i64 j ∧ Hid (Lib.NoOcc s.data.toList p.data.toList j)) (fun i => s.size + 1 - (intOf i).toNat)
  case atStart => exact ⟨0, Nat.zero_le _, rfl, Lib.hid (Lib.NoOcc.zero _ _)⟩
  case round =>
    obtain ⟨j, hj, rfl, HN⟩ := hrel
    by_cases hlt : j + p.size ≤ s.size
    · cases he : ((s.extract j (j + p.size)).toList == p.toList)
      · have HO := Lib.hid (noOcc_next hlt HN.out he)
        go_wp2
        go_round
        case rel => exact ⟨j + 1, by omega, by go_num, HO⟩
        case measure => simp [intOf]; omega
      · have HO := Lib.hid (occ_yes hlt he)
        go_wp2
        go_ret
        exact ⟨ret_bool HO.out.symm, rfl⟩
    · have HO := Lib.hid (occ_no (by omega) HN.out)
      go_wp2
      go_ret
      exact ⟨ret_bool HO.out.symm, rfl⟩
end Go.Proofs.YtkohadoicebojaaGreatDoor
