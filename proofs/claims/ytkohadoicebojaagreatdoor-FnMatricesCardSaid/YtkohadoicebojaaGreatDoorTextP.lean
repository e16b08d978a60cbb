/- What is joined is read back: texts of matrices and of shifts. Plain facts, with no program in sight. No statement is proved here. -/
import Derived.Test.YtkohadoicebojaaGreatDoorMatT
import Derived.Test.YtkohadoicebojaaGreatDoorParseI
namespace Go.Proofs.YtkohadoicebojaaGreatDoor
open Go.RowKit Go.Deep
theorem cutA_pass {b : UInt8} : ∀ (x r acc : List UInt8), b ∉ x → cutA b acc (x ++ r) = cutA b (acc ++ x) r := by
  intro x
  induction x with
  | nil => intro r acc _; simp
  | cons c x ih =>
    intro r acc h
    rw [List.cons_append, cutA, if_neg (fun e => h (by rw [e]; exact List.mem_cons_self ..)), ih r _ (fun hm => h (List.mem_cons_of_mem _ hm)), List.append_assoc]
    rfl
theorem cutA_hit (b : UInt8) (acc r : List UInt8) : cutA b acc (b :: r) = acc :: cutA b [] r := by rw [cutA, if_pos rfl]
theorem join_one (x sep : List UInt8) : Lib.join [x] sep = x := by simp [Lib.join, List.intercalate]
theorem join_two (x y : List UInt8) (l : List (List UInt8)) (sep : List UInt8) : Lib.join (x :: y :: l) sep = x ++ sep ++ Lib.join (y :: l) sep := by
  simp [Lib.join, List.intercalate, List.intersperse]
theorem cut_join {b : UInt8} : ∀ (L : List (List UInt8)), L ≠ [] → (∀ x ∈ L, b ∉ x) → cutA b [] (Lib.join L [b]) = L := by
  intro L
  induction L with
  | nil => intro h; exact absurd rfl h
  | cons x L ih =>
    intro _ h
    cases L with
    | nil =>
      rw [join_one]
      have := cutA_pass x [] [] (h x (List.mem_cons_self ..))
      rw [List.append_nil, List.nil_append] at this
      rw [this]; rfl
    | cons y l =>
      rw [join_two, List.append_assoc, cutA_pass x _ [] (h x (List.mem_cons_self ..)), List.nil_append, List.singleton_append, cutA_hit, ih (by simp) fun z hz => h z (List.mem_cons_of_mem _ hz)]
theorem bts_sep (b : UInt8) : bts ⟨#[b]⟩ = [b] := rfl
theorem splL_joined {b : UInt8} {L : List ByteArray} (h0 : L ≠ []) (h : ∀ s ∈ L, b ∉ bts s) : splL (joined L ⟨#[b]⟩) b = L := by
  refine splL_of ?_
  unfold joined
  rw [bts_str, bts_sep, cut_join _ (by simpa using h0)]
  intro x hx
  obtain ⟨s, hs, rfl⟩ := List.mem_map.1 hx
  exact h s hs
theorem join_mem {sep : List UInt8} {c : UInt8} : ∀ {L : List (List UInt8)}, c ∈ Lib.join L sep → c ∈ sep ∨ ∃ x ∈ L, c ∈ x := by
  intro L
  induction L with
  | nil => intro h; simp [Lib.join, List.intercalate] at h
  | cons x L ih =>
    intro h
    cases L with
    | nil => rw [join_one] at h; exact .inr ⟨x, List.mem_cons_self .., h⟩
    | cons y l =>
      rw [join_two, List.append_assoc, List.mem_append, List.mem_append] at h
      rcases h with h | h | h
      · exact .inr ⟨x, List.mem_cons_self .., h⟩
      · exact .inl h
      · rcases ih h with h | ⟨z, hz, h⟩
        · exact .inl h
        · exact .inr ⟨z, List.mem_cons_of_mem _ hz, h⟩
theorem fmtI_bts {n : Int} (h : 0 ≤ n) : bts (fmtI n) = Lib.decDigits n.toNat := by
  obtain ⟨u, rfl⟩ : ∃ u : Nat, n = u := ⟨n.toNat, by omega⟩
  unfold fmtI
  rw [bts_str, Lib.itoa_nonneg, Int.toNat_natCast]
theorem fmtI_dg {n : Int} (h : 0 ≤ n) : ∀ c ∈ bts (fmtI n), isDg c := by rw [fmtI_bts h]; exact dec_all _
theorem fmtI_ne {n : Int} (h : 0 ≤ n) : fmtI n ≠ ByteArray.empty := fun e => by
  have h1 := fmtI_bts h
  rw [e] at h1
  exact dec_ne _ h1.symm
theorem isDg_ne {c b : UInt8} (h : isDg c) (hb : b.toNat < 48) : c ≠ b := fun e => by
  subst e
  have := h.1
  omega
theorem splL_empty (b : UInt8) : splL ByteArray.empty b = [ByteArray.empty] := splL_of (by rfl)
/-- The text of a matrix is read back. -/
theorem matT_rows {m : List (List Int)} (h : isMat m = true) : rowsP (matT m) = m.map txts := by
  have hl := isMat_len h
  have hin : ∀ r ∈ m, ∀ x ∈ r, 0 ≤ x := fun r hr x hx => (isMat_in h r hr x hx).1
  have hrow : ∀ r ∈ m, r ≠ [] := fun r hr e => by
    obtain ⟨i, hi, e2⟩ := List.getElem_of_mem hr
    have := isMat_row h (show m[i]? = some r by rw [List.getElem?_eq_getElem hi, e2])
    rw [e] at this; simp at this; omega
  unfold matT rowsP
  rw [h]
  show (splL (joined (rowsT m) ⟨#[47]⟩) 47).map _ = _
  rw [splL_joined]
  · unfold rowsT
    rw [List.map_map]
    refine List.map_congr_left fun r hr => ?_
    show splL (rowT r) 44 = txts r
    unfold rowT
    rw [splL_joined]
    · rfl
    · intro e
      have h1 := congrArg List.length e
      rw [mtxs_len] at h1
      exact hrow r hr (List.length_eq_zero_iff.1 h1)
    · intro s hs
      obtain ⟨x, hx, rfl⟩ := List.mem_map.1 hs
      exact fun hc => isDg_ne (fmtI_dg (hin r hr x hx) _ hc) (by decide) rfl
  · intro e
    have h1 := congrArg List.length e
    rw [rowsT_len, List.length_nil] at h1
    omega
  · intro s hs
    obtain ⟨r, hr, rfl⟩ := List.mem_map.1 hs
    unfold rowT joined
    rw [bts_str]
    intro hc
    rcases join_mem hc with h2 | ⟨y, hy, h2⟩
    · rw [bts_sep] at h2; simp at h2
    · obtain ⟨t, ht, rfl⟩ := List.mem_map.1 hy
      obtain ⟨x, hx, rfl⟩ := List.mem_map.1 ht
      exact isDg_ne (fmtI_dg (hin r hr x hx) _ h2) (by decide) rfl
theorem matT_back {m m' : List (List Int)} {b : Bool} (h : MatR (matT m) m' b) : b = isMat m ∧ (isMat m = true → m' = m) := by
  cases hm : isMat m
  · refine ⟨?_, fun h => by cases h⟩
    rcases h with ⟨rfl, h1, h2⟩ | ⟨rfl, _⟩
    · exfalso
      have e : matT m = ByteArray.empty := by unfold matT; rw [hm]; rfl
      rw [e] at h1
      unfold rowsP at h1
      rw [splL_empty, List.map_cons, splL_empty, List.map_nil] at h1
      cases m' with
      | nil => simp at h1
      | cons r m' =>
        rw [List.map_cons] at h1
        injection h1 with h1 h3
        cases r with
        | nil => simp [txts] at h1
        | cons x r =>
          have hx := (isMat_in h2 (x :: r) (List.mem_cons_self ..) x (List.mem_cons_self ..)).1
          unfold txts at h1
          rw [List.map_cons] at h1
          injection h1 with h1 h4
          exact fmtI_ne hx h1.symm
    · rfl
  · have h0 : MatR (matT m) m true := .inl ⟨rfl, matT_rows hm, hm⟩
    obtain ⟨e1, e2⟩ := MatR.eq h h0
    exact ⟨e2, fun _ => e1⟩
end Go.Proofs.YtkohadoicebojaaGreatDoor
