/- Rows of numbers read from texts, the program's. No statement is proved here. (under way) -/
import Derived.Test.YtenjakgahniijaaSplit
import Derived.Test.YtenjakgahniijaaOutS
import Derived.Test.YtenjakgahniijaaReadS
import Derived.Test.YtenjakgahniijaaApp
import Derived.Test.YtenjakgahniijaaApp2
import Derived.Test.YtenjakgahniijaaHelp
namespace Go.Proofs.Ytenjakgahniijaa
open Go.RowKit Go.Deep
def txts (r : List Int) : List ByteArray := r.map fmtI
theorem txts_len (r : List Int) : (txts r).length = r.length := by simp [txts]
theorem txts_snoc (r : List Int) (x : Int) : txts (r ++ [x]) = txts r ++ [fmtI x] := by simp [txts]
def inM (r : List Int) : Prop := ∀ x ∈ r, 0 ≤ x ∧ x ≤ 1000000
/-- What reading a row of numbers gives. -/
def RowR (s : ByteArray) (r : List Int) (b : Bool) : Prop := (b = true ∧ splL s 44 = txts r ∧ inM r) ∨ (b = false ∧ ∀ r', inM r' → splL s 44 = txts r' → False)
theorem row_bad {s t : ByteArray} {j : Nat} {n : Int} (ht : (splL s 44)[j]? = some t) (h : Rd 0 1000000 t n false) : ∀ r', inM r' → splL s 44 = txts r' → False := fun r' hr h2 => by
  rw [h2] at ht
  have hx : (txts r')[j]? = r'[j]?.map fmtI := by simp [txts]
  rw [hx] at ht
  obtain ⟨x, hx1, hx2⟩ := Option.map_eq_some_iff.1 ht
  obtain ⟨h0, h1⟩ := hr x (List.mem_of_getElem? hx1)
  rcases h with ⟨h3, _⟩ | ⟨_, _, h3⟩
  · cases h3
  · exact h3 x h0 h1 hx2
theorem rd_true {lo hi n : Int} {t : ByteArray} (h : Rd lo hi t n true) : lo ≤ n ∧ n ≤ hi ∧ fmtI n = t := by
  rcases h with ⟨_, h1, h2, h3⟩ | ⟨h, _, _⟩
  · exact ⟨h1, h2, h3⟩
  · cases h
theorem part_size {s p : ByteArray} {b : UInt8} (h : p ∈ splL s b) : p.size ≤ s.size := by
  have key : ∀ r acc, ∀ p ∈ cutA b acc r, p.length ≤ acc.length + r.length := by
    intro r
    induction r with
    | nil => intro acc p hp; have e : p = acc := by simpa [cutA] using hp
             subst e; simp
    | cons x r ih =>
      intro acc p hp
      unfold cutA at hp
      split at hp
      · rcases List.mem_cons.1 hp with hp | hp
        · subst hp; simp
        · have := ih [] p hp; simp at this ⊢; omega
      · have := ih _ p hp; simp at this ⊢; omega
  obtain ⟨q, hq, rfl⟩ := List.mem_map.1 h
  have := key (bts s) [] q hq
  rw [str_size, ← bts_length]
  simpa using this
end Go.Proofs.Ytenjakgahniijaa
