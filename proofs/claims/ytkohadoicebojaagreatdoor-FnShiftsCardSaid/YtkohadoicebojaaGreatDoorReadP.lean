/- Numbers read from texts: the plain facts. No statement is proved here. -/
import Derived.Test.YtkohadoicebojaaGreatDoorNum
import Derived.Lib.AtoiAll
namespace Go.Proofs.YtkohadoicebojaaGreatDoor
open Go.RowKit Go.Deep
def isDg (c : UInt8) : Prop := 48 ≤ c.toNat ∧ c.toNat ≤ 57
theorem dgt_toNat {x : Nat} (h : x < 10) : (dgt x).toNat = 48 + x := by have := dgt_nat h; omega
theorem dig_all (u : Nat) : ∀ c ∈ dig u, isDg c := by
  induction u using Nat.strongRecOn with
  | _ u ih =>
    by_cases h : u = 0
    · subst h; intro c hc; cases hc
    · rw [dig_step h]
      intro c hc
      rcases List.mem_append.1 hc with hc | hc
      · exact ih _ (by omega) c hc
      · have e : c = dgt (u % 10) := by simpa using hc
        subst e
        have := dgt_toNat (x := u % 10) (by omega)
        unfold isDg; omega
theorem dec_all (u : Nat) : ∀ c ∈ Lib.decDigits u, isDg c := by
  by_cases h : u = 0
  · subst h
    rw [Lib.decDigits_one (by omega)]
    intro c hc
    have e : c = UInt8.ofNat 48 := by simpa using hc
    subst e; exact ⟨by decide, by decide⟩
  · rw [← dig_pos h]; exact dig_all u
theorem dig_ne {u : Nat} (h : u ≠ 0) : dig u ≠ [] := by rw [dig_step h]; simp
theorem dec_ne (u : Nat) : Lib.decDigits u ≠ [] := by
  by_cases h : u = 0
  · subst h; rw [Lib.decDigits_one (by omega)]; simp
  · rw [← dig_pos h]; exact dig_ne h
theorem dig_len : ∀ (k u : Nat), u < 10 ^ k → (dig u).length ≤ k := by
  intro k
  induction k with
  | zero => intro u h; have : u = 0 := by simpa using h
            subst this; exact Nat.le_refl _
  | succ k ih =>
    intro u h
    by_cases h0 : u = 0
    · subst h0; exact Nat.zero_le _
    · rw [dig_step h0, List.length_append]
      have : u / 10 < 10 ^ k := by rw [Nat.pow_succ] at h; omega
      have := ih _ this
      simp; omega
theorem dec_len {k u : Nat} (hk : 1 ≤ k) (h : u < 10 ^ k) : (Lib.decDigits u).length ≤ k := by
  by_cases h0 : u = 0
  · subst h0; rw [Lib.decDigits_one (by omega)]; simpa using hk
  · rw [← dig_pos h0]; exact dig_len k u h
def val (l : List UInt8) : Nat := l.foldl (fun a c => a * 10 + (c.toNat - 48)) 0
theorem val_snoc (l : List UInt8) (c : UInt8) : val (l ++ [c]) = val l * 10 + (c.toNat - 48) := by simp [val, List.foldl_append]
theorem val_dig (u : Nat) : val (dig u) = u := by
  induction u using Nat.strongRecOn with
  | _ u ih =>
    by_cases h : u = 0
    · subst h; rfl
    · rw [dig_step h, val_snoc, ih _ (by omega), dgt_toNat (by omega)]; omega
theorem val_dec (u : Nat) : val (Lib.decDigits u) = u := by
  by_cases h : u = 0
  · subst h; rw [Lib.decDigits_one (by omega)]; rfl
  · rw [← dig_pos h]; exact val_dig u
theorem parse_append : ∀ (l m : List UInt8) (a b : Nat), Lib.parseUint10 a l = .ok b → Lib.parseUint10 a (l ++ m) = Lib.parseUint10 b m := by
  intro l
  induction l with
  | nil => intro m a b h; simp only [Lib.parseUint10] at h; injection h with h; subst h; rfl
  | cons c r ih =>
    intro m a b h
    rw [List.cons_append]
    simp only [Lib.parseUint10] at h ⊢
    split at h
    · rename_i h1
      rw [if_pos h1]
      split at h
      · cases h
      · rename_i h2
        rw [if_neg h2]
        split at h
        · cases h
        · rename_i h3
          rw [if_neg h3]
          exact ih m _ b h
    · cases h
theorem parse_dig (u : Nat) : u < 18446744073709551616 → Lib.parseUint10 0 (dig u) = .ok u := by
  induction u using Nat.strongRecOn with
  | _ u ih =>
    intro hu
    by_cases h : u = 0
    · subst h; rfl
    · rw [dig_step h, parse_append _ _ _ _ (ih (u / 10) (by omega) (by omega))]
      have e := dgt_toNat (x := u % 10) (by omega)
      simp only [Lib.parseUint10]
      rw [if_pos (by omega), if_neg (by omega), if_neg (by omega)]
      congr 1; omega
theorem parse_dec {u : Nat} (hu : u < 18446744073709551616) : Lib.parseMag (Lib.decDigits u) = .ok u := by
  unfold Lib.parseMag
  rw [if_neg (dec_ne u)]
  by_cases h : u = 0
  · subst h; rw [Lib.decDigits_one (by omega)]; rfl
  · rw [← dig_pos h]; exact parse_dig u hu
theorem atoi_fmtI {n : Int} (h0 : -9223372036854775808 ≤ n) (h1 : n ≤ 9223372036854775807) : Lib.atoiAll (Lib.itoa n) = .ok n := by
  unfold Lib.itoa
  by_cases h : n < 0
  · rw [if_pos h]
    have hp := parse_dec (u := n.natAbs) (by omega)
    unfold Lib.atoiAll
    have e : (45 : UInt8).toNat = 45 := rfl
    simp only [e]
    rw [if_pos (Or.inr trivial), hp]
    simp only
    rw [if_neg (by simp), if_neg (by omega)]
    simp only [if_true]
    congr 1; omega
  · rw [if_neg h]
    have hp := parse_dec (u := n.toNat) (by omega)
    have hall := dec_all n.toNat
    cases hd : Lib.decDigits n.toNat with
    | nil => exact absurd hd (dec_ne _)
    | cons c r =>
      rw [hd] at hp hall
      have hc := hall c (List.mem_cons_self ..)
      unfold isDg at hc
      unfold Lib.atoiAll
      simp only
      rw [if_neg (by omega), hp]
      simp only
      rw [if_neg (by omega), if_neg (by omega), if_neg (by omega)]
      congr 1; omega
theorem fmtI_atoi {n : Int} {s : ByteArray} (h0 : -9223372036854775808 ≤ n) (h1 : n ≤ 9223372036854775807) (h : fmtI n = s) : Lib.atoiAll s.data.toList = .ok n := by
  have e : s.data.toList = Lib.itoa n := by rw [← h]; exact bts_str _
  rw [e]; exact atoi_fmtI h0 h1
/-- What reading a text as a number between two bounds gives. -/
def Rd (lo hi : Int) (s : ByteArray) (n : Int) (b : Bool) : Prop := (b = true ∧ lo ≤ n ∧ n ≤ hi ∧ fmtI n = s) ∨ (b = false ∧ n = 0 ∧ ∀ m, lo ≤ m → m ≤ hi → fmtI m = s → False)
theorem Rd.eq {lo hi : Int} {s : ByteArray} {n m : Int} {b c : Bool} (hlo : -9223372036854775808 ≤ lo) (hhi : hi ≤ 9223372036854775807) (h : Rd lo hi s n b) (k : Rd lo hi s m c) : n = m ∧ b = c := by
  rcases h with ⟨rfl, h1, h2, h3⟩ | ⟨rfl, rfl, h⟩
  · rcases k with ⟨rfl, k1, k2, k3⟩ | ⟨rfl, rfl, k⟩
    · have e1 := fmtI_atoi (by omega) (by omega) h3
      have e2 := fmtI_atoi (by omega) (by omega) k3
      rw [e1] at e2
      injection e2 with e2
      exact ⟨e2, rfl⟩
    · exact (k n h1 h2 h3).elim
  · rcases k with ⟨rfl, k1, k2, k3⟩ | ⟨rfl, rfl, k⟩
    · exact (h m k1 k2 k3).elim
    · exact ⟨rfl, rfl⟩
/-- What stands behind the sign; is there a minus? -/
def ngs (s : ByteArray) : Bool := (bts s).head? == some 45
def tl (s : ByteArray) : List UInt8 := if ngs s then (bts s).tail else bts s
theorem fmt_parts {m : Int} {s : ByteArray} (h : fmtI m = s) : tl s = Lib.decDigits m.natAbs ∧ ngs s = decide (m < 0) := by
  subst h
  unfold tl ngs fmtI Lib.itoa
  rw [bts_str]
  by_cases h : m < 0
  · rw [if_pos h]; simp [h]
  · rw [if_neg h, show m.toNat = m.natAbs by omega]
    have hall := dec_all m.natAbs
    cases hd : Lib.decDigits m.natAbs with
    | nil => exact absurd hd (dec_ne _)
    | cons c r =>
      rw [hd] at hall
      have hc := hall c (List.mem_cons_self ..)
      have hne : c ≠ 45 := fun e => by subst e; exact absurd hc.1 (by decide)
      have e : ((some c : Option UInt8) == some 45) = false := by simp [hne]
      simp [hne, h]
theorem rd_len {k : Nat} {hi : Int} {s : ByteArray} (hk : 1 ≤ k) (hh : hi < (10 ^ k : Nat)) (h : (tl s).length < 1 ∨ k < (tl s).length) : ∀ m, -hi ≤ m → m ≤ hi → fmtI m = s → False := fun m h1 h2 h3 => by
  have e := (fmt_parts h3).1
  have hl := dec_len (u := m.natAbs) hk (by omega)
  have hn : (Lib.decDigits m.natAbs).length ≠ 0 := fun e => dec_ne _ (List.length_eq_zero_iff.1 e)
  rw [e] at h
  omega
theorem rd_bad {hi : Int} {s : ByteArray} {i : Nat} {c : UInt8} (hc : (tl s)[i]? = some c) (h : ¬ isDg c) : ∀ m, -hi ≤ m → m ≤ hi → fmtI m = s → False := fun m _ _ h3 => by
  rw [(fmt_parts h3).1] at hc
  exact h (dec_all _ _ (List.mem_of_getElem? hc))
theorem rd_val {m : Int} {s : ByteArray} (h : fmtI m = s) : m = if ngs s then -(val (tl s) : Int) else (val (tl s) : Int) := by
  obtain ⟨e1, e2⟩ := fmt_parts h
  rw [e1, e2, val_dec]
  by_cases h : m < 0
  · simp [h]; omega
  · simp [h]; omega
/-- What the reference ends with. -/
theorem rd_end {k : Nat} {hi : Int} {s f : ByteArray} {v : Int} (hh : hi + 1 = (10 ^ k : Nat)) (hv : v = if ngs s then -(val (tl s) : Int) else (val (tl s) : Int)) (hb : val (tl s) < 10 ^ k) (hf : fmtI v = f) :
    (f = s → Rd (-hi) hi s v true) ∧ (¬ f = s → Rd (-hi) hi s 0 false) := by
  constructor
  · intro e
    refine .inl ⟨rfl, ?_, ?_, hf.trans e⟩
    · rw [hv]; split <;> omega
    · rw [hv]; split <;> omega
  · intro e
    refine .inr ⟨rfl, rfl, fun m _ _ h3 => ?_⟩
    have := rd_val h3
    rw [← hv] at this
    subst this
    exact e (hf.symm.trans h3)
theorem val_take_lt {l : List UInt8} {j : Nat} {c : UInt8} (hv : val (l.take j) < 10 ^ j) (hc : l[j]? = some c) (hd : isDg c) : val (l.take (j + 1)) = val (l.take j) * 10 + (c.toNat - 48) ∧ val (l.take (j + 1)) < 10 ^ (j + 1) := by
  rw [take_snoc hc, val_snoc, Nat.pow_succ]
  unfold isDg at hd
  exact ⟨rfl, by omega⟩
end Go.Proofs.YtkohadoicebojaaGreatDoor
