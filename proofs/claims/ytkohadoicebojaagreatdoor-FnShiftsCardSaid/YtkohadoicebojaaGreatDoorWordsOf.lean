/- WordsOf, the program's and the reference's. No statement is proved here. -/
import Derived.Test.YtkohadoicebojaaGreatDoorWords
import Derived.Test.YtkohadoicebojaaGreatDoorRoot
namespace Go.Proofs.YtkohadoicebojaaGreatDoor
open Go.RowKit Go.Deep
def wordsB (k n : Int) : Bool := inR k 1 3 && (inR n 0 16 && ((decide (k = 1) || (decide (k = 2) && decide (n ≤ 9))) || (decide (k = 3) && decide (n ≤ 6))))
def wordsL (k n : Int) : List ByteArray := if wordsB k n = true then words k.toNat n.toNat else []
theorem wordsL_k {k n : Int} (h : inR k 1 3 = false) : wordsL k n = [] := if_neg (by unfold wordsB; rw [h]; simp)
theorem wordsL_n {k n : Int} (h : n < 0 ∨ 16 < n) : wordsL k n = [] := if_neg (by unfold wordsB; rw [show inR n 0 16 = false from inR_no.2 (by omega)]; simp)
theorem wordsL_2 {n : Int} (h : 9 < n) : wordsL 2 n = [] := if_neg (by unfold wordsB; rw [show decide (n ≤ 9) = false from decide_eq_false (by omega)]; simp)
theorem wordsL_3 {n : Int} (h : 6 < n) : wordsL 3 n = [] := if_neg (by unfold wordsB; rw [show decide (n ≤ 6) = false from decide_eq_false (by omega)]; simp)
theorem wordsL_yes {K N : Nat} (h : (K = 1 ∧ N ≤ 16) ∨ (K = 2 ∧ N ≤ 9) ∨ (K = 3 ∧ N ≤ 6)) : wordsL (K : Int) (N : Int) = words K N := by
  unfold wordsL
  rw [if_pos, Int.toNat_natCast, Int.toNat_natCast]
  unfold wordsB
  have h1 : inR (K : Int) 1 3 = true := inR_iff.2 (by omega)
  have h2 : inR (N : Int) 0 16 = true := inR_iff.2 (by omega)
  rw [h1, h2, Bool.true_and, Bool.true_and]
  rcases h with ⟨rfl, h⟩ | ⟨rfl, h⟩ | ⟨rfl, h⟩
  · rfl
  · rw [show decide ((N : Int) ≤ 9) = true from decide_eq_true (by omega)]; rfl
  · rw [show decide ((N : Int) ≤ 6) = true from decide_eq_true (by omega)]; rfl
theorem kp_small {K N : Nat} (h : (K = 1 ∧ N ≤ 16) ∨ (K = 2 ∧ N ≤ 9) ∨ (K = 3 ∧ N ≤ 6)) : kp K N ≤ 729 := by
  rcases h with ⟨rfl, h⟩ | ⟨rfl, h⟩ | ⟨rfl, h⟩
  · unfold kp; rw [Nat.one_pow]; omega
  · have : kp 2 N ≤ 2 ^ 9 := Nat.pow_le_pow_right (by omega) h
    have e : (2 : Nat) ^ 9 = 512 := rfl
    omega
  · have : kp 3 N ≤ 3 ^ 6 := Nat.pow_le_pow_right (by omega) h
    have e : (3 : Nat) ^ 6 = 729 := rfl
    omega
theorem kp_big {N : Nat} (h : 6 < N) : 729 < kp 3 N := by
  have : 3 ^ 7 ≤ kp 3 N := Nat.pow_le_pow_right (by omega) h
  have e : (3 : Nat) ^ 7 = 2187 := rfl
  omega
theorem words_size (K N : Nat) : ∀ s ∈ words K N, s.size = N := by
  intro s hs
  obtain ⟨i, _, rfl⟩ := List.mem_map.1 hs
  exact word_size _ _ _
theorem wordsL_len (k n : Int) : (wordsL k n).length ≤ 1000 := by
  by_cases h : wordsB k n = true
  · have h' := h
    unfold wordsB at h'
    simp only [Bool.and_eq_true, Bool.or_eq_true, decide_eq_true_eq] at h'
    obtain ⟨h1, h2, h3⟩ := h'
    have h1 := inR_iff.1 h1
    have h2 := inR_iff.1 h2
    unfold wordsL
    rw [if_pos h]
    unfold words
    rw [wordsTo_length]
    have := kp_small (K := k.toNat) (N := n.toNat) (by omega)
    omega
  · unfold wordsL; rw [if_neg h]; simp
theorem rep_word (n : Nat) : rep ⟨#[97]⟩ n = word 1 n 0 := by
  have key : ∀ n, Lib.repeatL [97] n = wrdAt 1 n 0 := by
    intro n
    induction n with
    | zero => rfl
    | succ n ih => rw [Lib.repeatL_add, Lib.repeatL_one, ih]; rfl
  unfold rep word
  exact congrArg str (key n)
theorem words_one (n : Nat) : words 1 n = [word 1 n 0] := by
  unfold words kp
  rw [Nat.one_pow]; rfl
end Go.Proofs.YtkohadoicebojaaGreatDoor
