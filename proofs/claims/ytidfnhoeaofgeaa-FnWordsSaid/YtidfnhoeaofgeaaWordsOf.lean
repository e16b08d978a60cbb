/- WordsOf, the program's and the reference's. No statement is proved here. -/
import Derived.Test.YtidfnhoeaofgeaaWords
import Derived.Test.YtidfnhoeaofgeaaRoot
namespace Go.Proofs.Ytidfnhoeaofgeaa
open Go.RowKit Go.Deep
def wordsB (k n : Int) : Bool := inR k 1 3 && (inR n 0 16 && ((decide (k = 1) || (decide (k = 2) && decide (n ≤ 9))) || (decide (k = 3) && decide (n ≤ 6))))
def wordsL (k n : Int) : List ByteArray := if wordsB k n = true then words k.toNat n.toNat else []
theorem wordsL_k {k n : Int} (h : inR k 1 3 = false) : wordsL k n = [] := if_neg (by unfold wordsB; rw [h]; simp)
theorem wordsL_n {k n : Int} (h : n < 0 ∨ 16 < n) : wordsL k n = [] := if_neg (by unfold wordsB; rw [show inR n 0 16 = false from inR_no.2 (by omega)]; simp)
theorem wordsL_2 {n : Int} (h : 9 < n) : wordsL 2 n = [] := if_neg (by unfold wordsB; rw [show decide (n ≤ 9) = false from decide_eq_false (by omega)]; simp)
theorem wordsL_3 {n : Int} (h : 6 < n) : wordsL 3 n = [] := if_neg (by unfold wordsB; rw [show decide (n ≤ 6) = false from decide_eq_false (by omega)]; simp)
theorem wordsL_yes {K N : Nat} (h : (K = 1 ∧ N ≤ 16) ∨ (K = 2 ∧ N ≤ 9) ∨ (K = 3 ∧ N ≤ 6)) : wordsL (K : Int) (N : Int) = words K N := by
  unfold wordsL
  rw [if_pos, Int.toNat_natCast, Int.toNat_natCast]
  unfold wordsB
  have h1 : inR (K : Int) 1 3 = true := inR_iff.2 (by omega)
  have h2 : inR (N : Int) 0 16 = true := inR_iff.2 (by omega)
  rw [h1, h2, Bool.true_and, Bool.true_and]
  rcases h with ⟨rfl, h⟩ | ⟨rfl, h⟩ | ⟨rfl, h⟩
  · rfl
  · rw [show decide ((N : Int) ≤ 9) = true from decide_eq_true (by omega)]; rfl
  · rw [show decide ((N : Int) ≤ 6) = true from decide_eq_true (by omega)]; rfl
theorem kp_small {K N : Nat} (h : (K = 1 ∧ N ≤ 16) ∨ (K = 2 ∧ N ≤ 9) ∨ (K = 3 ∧ N ≤ 6)) : kp K N ≤ 729 := by
  rcases h with ⟨rfl, h⟩ | ⟨rfl, h⟩ | ⟨rfl, h⟩
  · unfold kp; rw [Nat.one_pow]; omega
  · have : kp 2 N ≤ 2 ^ 9 := Nat.pow_le_pow_right (by omega) h
    have e : (2 : Nat) ^ 9 = 512 := rfl
    omega
  · have : kp 3 N ≤ 3 ^ 6 := Nat.pow_le_pow_right (by omega) h
    have e : (3 : Nat) ^ 6 = 729 := rfl
    omega
theorem kp_big {N : Nat} (h : 6 < N) : 729 < kp 3 N := by
  have : 3 ^ 7 ≤ kp 3 N := Nat.pow_le_pow_right (by omega) h
  have e : (3 : Nat) ^ 7 = 2187 := rfl
  omega
theorem words_size (K N : Nat) : ∀ s ∈ words K N, s.size = N := by
  intro s hs
  obtain ⟨i, _, rfl⟩ := List.mem_map.1 hs
  exact word_size _ _ _
theorem wordsL_len (k n : Int) : (wordsL k n).length ≤ 1000 := by
  by_cases h : wordsB k n = true
  · have h' := h
    unfold wordsB at h'
    simp only [Bool.and_eq_true, Bool.or_eq_true, decide_eq_true_eq] at h'
    obtain ⟨h1, h2, h3⟩ := h'
    have h1 := inR_iff.1 h1
    have h2 := inR_iff.1 h2
    unfold wordsL
    rw [if_pos h]
    unfold words
    rw [wordsTo_length]
    have := kp_small (K := k.toNat) (N := n.toNat) (by omega)
    omega
  · unfold wordsL; rw [if_neg h]; simp
theorem rep_word (n : Nat) : rep ⟨#[97]⟩ n = word 1 n 0 := by
  have key : ∀ n, Lib.repeatL [97] n = wrdAt 1 n 0 := by
    intro n
    induction n with
    | zero => rfl
    | succ n ih => rw [Lib.repeatL_add, Lib.repeatL_one, ih]; rfl
  unfold rep word
  exact congrArg str (key n)
theorem words_one (n : Nat) : words 1 n = [word 1 n 0] := by
  unfold words kp
  rw [Nat.one_pow]; rfl
set_option maxRecDepth 10000 in
set_option maxHeartbeats 400000 in
theorem sWordsOf (k n : Int) (w : World) :
    Calls Try.prog 19 #[.int .i64 k, .int .i64 n] w fun e w' => ∃ v', e = .returned v' ∧ OwnS 9 w.heap.size w' v' (wordsL k n) ∧ Below w.heap.size w w' := by
  have he := Own.empty 9 w
  have hb := below_alloc w (.cells #[] 9)
  cases hk : inR k 1 3
  · have HK := Lib.hid hk
    have HO := Lib.hid (wordsL_k (n := n) hk); clear hk
    go_enter Try.func19, Try.ntmps19
    go_wp2_with (go_at_call 61; refine (l1In' _ _ _ _).mono ?_; rintro e w2 ⟨rfl, rfl⟩; rw [HK.out])
    go_ret
    exact ⟨_, rfl, by rw [HO.out]; exact he, hb⟩
  have hkb := inR_iff.1 hk
  have HK := Lib.hid hk; clear hk
  by_cases hn : n < 0
  · have HO := Lib.hid (wordsL_n (k := k) (.inl hn))
    clear hkb
    go_enter Try.func19, Try.ntmps19
    go_wp2_with (go_at_call 61; refine (l1In' _ _ _ _).mono ?_; rintro e w2 ⟨rfl, rfl⟩; rw [HK.out])
    go_ret
    exact ⟨_, rfl, by rw [HO.out]; exact he, hb⟩
  obtain ⟨N, rfl⟩ : ∃ N : Nat, n = N := ⟨n.toNat, by omega⟩
  have hk3 : k = 1 ∨ k = 2 ∨ k = 3 := by omega
  clear hkb
  rcases hk3 with rfl | rfl | rfl
  · by_cases h9 : 16 < (N : Int)
    · have HO := Lib.hid (wordsL_n (k := 1) (.inr h9))
      go_enter Try.func19, Try.ntmps19
      go_wp2_with (go_at_call 61; refine (l1In' _ _ _ _).mono ?_; rintro e w2 ⟨rfl, rfl⟩; rw [HK.out])
      go_ret
      exact ⟨_, rfl, by rw [HO.out]; exact he, hb⟩
    · have HO : Hid (wordsL 1 (N : Int) = words 1 N) := Lib.hid (wordsL_yes (K := 1) (by omega))
      have hkp := kp_small (K := 1) (N := N) (by omega)
      go_enter Try.func19, Try.ntmps19
      go_wp2_with (first | (go_at_call 61; refine (l1In' _ _ _ _).mono ?_; rintro e w2 ⟨rfl, rfl⟩; rw [HK.out]) | (go_at_call 62; refine (sAll 1 N _ (by omega) (by omega) (by omega) (by omega)).mono ?_; rintro e w2 ⟨v2, rfl, ho2, hb2⟩))
      go_ret
      exact ⟨_, rfl, by rw [HO.out]; exact ho2, hb2⟩
  · by_cases h9 : 9 < (N : Int)
    · have HO := Lib.hid (wordsL_2 h9)
      go_enter Try.func19, Try.ntmps19
      go_wp2_with (go_at_call 61; refine (l1In' _ _ _ _).mono ?_; rintro e w2 ⟨rfl, rfl⟩; rw [HK.out])
      go_ret
      exact ⟨_, rfl, by rw [HO.out]; exact he, hb⟩
    · have HO : Hid (wordsL 2 (N : Int) = words 2 N) := Lib.hid (wordsL_yes (K := 2) (by omega))
      have hkp := kp_small (K := 2) (N := N) (by omega)
      go_enter Try.func19, Try.ntmps19
      go_wp2_with (first | (go_at_call 61; refine (l1In' _ _ _ _).mono ?_; rintro e w2 ⟨rfl, rfl⟩; rw [HK.out]) | (go_at_call 62; refine (sAll 2 N _ (by omega) (by omega) (by omega) (by omega)).mono ?_; rintro e w2 ⟨v2, rfl, ho2, hb2⟩))
      go_ret
      exact ⟨_, rfl, by rw [HO.out]; exact ho2, hb2⟩
  · by_cases h9 : 6 < (N : Int)
    · have HO := Lib.hid (wordsL_3 h9)
      go_enter Try.func19, Try.ntmps19
      go_wp2_with (go_at_call 61; refine (l1In' _ _ _ _).mono ?_; rintro e w2 ⟨rfl, rfl⟩; rw [HK.out])
      go_ret
      exact ⟨_, rfl, by rw [HO.out]; exact he, hb⟩
    · have HO : Hid (wordsL 3 (N : Int) = words 3 N) := Lib.hid (wordsL_yes (K := 3) (by omega))
      have hkp := kp_small (K := 3) (N := N) (by omega)
      go_enter Try.func19, Try.ntmps19
      go_wp2_with (first | (go_at_call 61; refine (l1In' _ _ _ _).mono ?_; rintro e w2 ⟨rfl, rfl⟩; rw [HK.out]) | (go_at_call 62; refine (sAll 3 N _ (by omega) (by omega) (by omega) (by omega)).mono ?_; rintro e w2 ⟨v2, rfl, ho2, hb2⟩))
      go_ret
      exact ⟨_, rfl, by rw [HO.out]; exact ho2, hb2⟩
theorem Own.oneS (te : TypeId) (w : World) (x : ByteArray) : Own te w.heap.size (w.alloc (.cells #[.string x] te)) (.slice (some ⟨w.heap.size, 0, none⟩) 1 1) (strs [x]) :=
  World.ownsRow_lit w #[.string x] 1 (Nat.le_refl _) (by simp [maxLen]) rfl
theorem ipowerB (k n m : Nat) (w : World) (hk : k ≤ 3) (hn : n ≤ 9) (h : kp k n = m) :
    Calls Try.prog 64 #[.int .i64 k, .int .i64 n] w fun e w' => e = .returned (.int .i64 m) ∧ w = w' := by
  subst h; exact ipower k n w hk hn
set_option maxRecDepth 10000 in
set_option maxHeartbeats 400000 in
theorem iWordsOf (k n : Int) (w : World) :
    Calls Try.prog 20 #[.int .i64 k, .int .i64 n] w fun e w' => ∃ v', e = .returned v' ∧ OwnS 9 w.heap.size w' v' (wordsL k n) ∧ Below w.heap.size w w' := by
  have he := Own.nil 9 w.heap.size w
  have hb := Below.refl w.heap.size w
  cases hk : inR k 1 3
  · have HK := Lib.hid hk
    have HO := Lib.hid (wordsL_k (n := n) hk); clear hk
    go_enter Try.func20, Try.ntmps20
    go_wp2_with (go_at_call 63; refine (isLetters _ _).mono ?_; rintro e w2 ⟨rfl, rfl⟩; rw [HK.out])
    go_ret
    exact ⟨_, rfl, by rw [HO.out]; exact he, hb⟩
  have hkb := inR_iff.1 hk
  have HK := Lib.hid hk; clear hk
  by_cases hn : n < 0
  · have HO := Lib.hid (wordsL_n (k := k) (.inl hn))
    clear hkb
    go_enter Try.func20, Try.ntmps20
    go_wp2_with (go_at_call 63; refine (isLetters _ _).mono ?_; rintro e w2 ⟨rfl, rfl⟩; rw [HK.out])
    go_ret
    exact ⟨_, rfl, by rw [HO.out]; exact he, hb⟩
  by_cases hn16 : 16 < n
  · have HO := Lib.hid (wordsL_n (k := k) (.inr hn16))
    clear hkb
    go_enter Try.func20, Try.ntmps20
    go_wp2_with (go_at_call 63; refine (isLetters _ _).mono ?_; rintro e w2 ⟨rfl, rfl⟩; rw [HK.out])
    go_ret
    exact ⟨_, rfl, by rw [HO.out]; exact he, hb⟩
  obtain ⟨N, rfl⟩ : ∃ N : Nat, n = N := ⟨n.toNat, by omega⟩
  have hk3 : k = 1 ∨ k = 2 ∨ k = 3 := by omega
  clear hkb
  rcases hk3 with rfl | rfl | rfl
  · have HO : Hid (wordsL 1 (N : Int) = [word 1 N 0]) := Lib.hid ((wordsL_yes (K := 1) (N := N) (by omega)).trans (words_one N))
    obtain ⟨x, hx⟩ : ∃ x, word 1 N 0 = x := ⟨_, rfl⟩
    rw [hx] at HO
    have HR : Hid (rep ⟨#[97]⟩ N = x) := Lib.hid ((rep_word N).trans hx)
    clear hx
    go_enter Try.func20, Try.ntmps20
    go_wp2_with fail
    refine (isLetters _ _).mono ?_
    rintro e w2 ⟨rfl, rfl⟩
    rw [HK.out]
    go_wp2_with fail
    refine (iRep _ N _ _ (by decide) (by omega) HR.out).mono ?_
    rintro e w2 ⟨rfl, hb2⟩
    have ho := Own.oneS 9 w2 x
    go_wp2
    go_ret
    exact ⟨_, rfl, by rw [HO.out]; exact ho.mono hb2.size, hb2.alloc hb2.size _⟩
  · by_cases h9 : 9 < (N : Int)
    · have HO := Lib.hid (wordsL_2 h9)
      go_enter Try.func20, Try.ntmps20
      go_wp2_with (go_at_call 63; refine (isLetters _ _).mono ?_; rintro e w2 ⟨rfl, rfl⟩; rw [HK.out])
      go_ret
      exact ⟨_, rfl, by rw [HO.out]; exact he, hb⟩
    · have HO : Hid (wordsL 2 (N : Int) = words 2 N) := Lib.hid (wordsL_yes (K := 2) (by omega))
      have hkp := kp_small (K := 2) (N := N) (by omega)
      obtain ⟨m, hm⟩ : ∃ m, kp 2 N = m := ⟨_, rfl⟩
      rw [hm] at hkp
      have HM := Lib.hid hm; clear hm
      go_enter Try.func20, Try.ntmps20
      go_wp2_with (first | (go_at_call 63; refine (isLetters _ _).mono ?_; rintro e w2 ⟨rfl, rfl⟩; rw [HK.out]) | (go_at_call 64; refine (ipowerB 2 N m _ (by omega) (by omega) HM.out).mono ?_; rintro e w2 ⟨rfl, rfl⟩) | (go_at_call 65; refine (iwordsOf 2 N _ (by omega) (by omega) (by omega)).mono ?_; rintro e w2 ⟨v2, rfl, ho2, hb2⟩))
      go_ret
      exact ⟨_, rfl, by rw [HO.out]; exact ho2, hb2⟩
  · by_cases h9 : 9 < (N : Int)
    · have HO := Lib.hid (wordsL_3 (n := (N : Int)) (by omega))
      go_enter Try.func20, Try.ntmps20
      go_wp2_with (go_at_call 63; refine (isLetters _ _).mono ?_; rintro e w2 ⟨rfl, rfl⟩; rw [HK.out])
      go_ret
      exact ⟨_, rfl, by rw [HO.out]; exact he, hb⟩
    obtain ⟨m, hm⟩ : ∃ m, kp 3 N = m := ⟨_, rfl⟩
    by_cases h6 : 6 < (N : Int)
    · have HO := Lib.hid (wordsL_3 h6)
      have hkp := kp_big (N := N) (by omega)
      rw [hm] at hkp
      have HM := Lib.hid hm; clear hm
      go_enter Try.func20, Try.ntmps20
      go_wp2_with (first | (go_at_call 63; refine (isLetters _ _).mono ?_; rintro e w2 ⟨rfl, rfl⟩; rw [HK.out]) | (go_at_call 64; refine (ipowerB 3 N m _ (by omega) (by omega) HM.out).mono ?_; rintro e w2 ⟨rfl, rfl⟩))
      go_ret
      exact ⟨_, rfl, by rw [HO.out]; exact he, hb⟩
    · have HO : Hid (wordsL 3 (N : Int) = words 3 N) := Lib.hid (wordsL_yes (K := 3) (by omega))
      have hkp := kp_small (K := 3) (N := N) (by omega)
      rw [hm] at hkp
      have HM := Lib.hid hm; clear hm
      go_enter Try.func20, Try.ntmps20
      go_wp2_with (first | (go_at_call 63; refine (isLetters _ _).mono ?_; rintro e w2 ⟨rfl, rfl⟩; rw [HK.out]) | (go_at_call 64; refine (ipowerB 3 N m _ (by omega) (by omega) HM.out).mono ?_; rintro e w2 ⟨rfl, rfl⟩) | (go_at_call 65; refine (iwordsOf 3 N _ (by omega) (by omega) (by omega)).mono ?_; rintro e w2 ⟨v2, rfl, ho2, hb2⟩))
      go_ret
      exact ⟨_, rfl, by rw [HO.out]; exact ho2, hb2⟩
end Go.Proofs.Ytidfnhoeaofgeaa
