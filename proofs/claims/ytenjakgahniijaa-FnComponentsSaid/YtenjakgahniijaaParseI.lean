/- ParseMatrix, the program's. No statement is proved here. -/
import Derived.Test.YtenjakgahniijaaParseM
import Derived.Test.YtenjakgahniijaaMatA
import Derived.Test.YtenjakgahniijaaTab
namespace Go.Proofs.Ytenjakgahniijaa
open Go.RowKit Go.Deep
def rowsP (s : ByteArray) : List (List ByteArray) := (splL s 47).map fun p => splL p 44
/-- What reading a matrix gives. -/
def MatR (s : ByteArray) (m : List (List Int)) (b : Bool) : Prop := (b = true ∧ rowsP s = m.map txts ∧ isMat m = true) ∨ (b = false ∧ m = [] ∧ ∀ m', isMat m' = true → rowsP s = m'.map txts → False)
theorem isMat_in {m : List (List Int)} (h : isMat m = true) : ∀ r ∈ m, inM r := fun r hr x hx => by
  obtain ⟨i, hi, e⟩ := List.getElem_of_mem hr
  obtain ⟨j, hj, e2⟩ := List.getElem_of_mem hx
  exact isMat_num h (show m[i]? = some r by rw [List.getElem?_eq_getElem hi, e]) (show r[j]? = some x by rw [List.getElem?_eq_getElem hj, e2])
theorem txts_inj : ∀ (r r' : List Int), inM r → inM r' → txts r = txts r' → r = r' := by
  intro r
  induction r with
  | nil => intro r' _ _ h; cases r' with
           | nil => rfl
           | cons a r' => simp [txts] at h
  | cons a r ih =>
    intro r' h1 h2 h
    cases r' with
    | nil => simp [txts] at h
    | cons a' r' =>
      have e1 : fmtI a = fmtI a' := by simp [txts] at h; exact h.1
      have e2 : txts r = txts r' := by simp [txts] at h ⊢; exact h.2
      have b1 := h1 a (List.mem_cons_self ..)
      have b2 := h2 a' (List.mem_cons_self ..)
      have f1 := fmtI_atoi (n := a) (by omega) (by omega) e1
      have f2 := fmtI_atoi (n := a') (by omega) (by omega) rfl
      rw [f1] at f2
      injection f2 with f2
      rw [f2, ih r' (fun x hx => h1 x (List.mem_cons_of_mem _ hx)) (fun x hx => h2 x (List.mem_cons_of_mem _ hx)) e2]
theorem mat_inj : ∀ (m m' : List (List Int)), (∀ r ∈ m, inM r) → (∀ r ∈ m', inM r) → m.map txts = m'.map txts → m = m' := by
  intro m
  induction m with
  | nil => intro m' _ _ h; cases m' with
           | nil => rfl
           | cons a r' => simp at h
  | cons a m ih =>
    intro m' h1 h2 h
    cases m' with
    | nil => simp at h
    | cons a' m' =>
      simp at h
      rw [txts_inj a a' (h1 a (List.mem_cons_self ..)) (h2 a' (List.mem_cons_self ..)) h.1, ih m' (fun x hx => h1 x (List.mem_cons_of_mem _ hx)) (fun x hx => h2 x (List.mem_cons_of_mem _ hx)) (by simpa using h.2)]
theorem MatR.eq {s : ByteArray} {m m' : List (List Int)} {b b' : Bool} (h : MatR s m b) (k : MatR s m' b') : m = m' ∧ b = b' := by
  rcases h with ⟨rfl, h1, h2⟩ | ⟨rfl, rfl, h⟩
  · rcases k with ⟨rfl, k1, k2⟩ | ⟨rfl, rfl, k⟩
    · exact ⟨mat_inj m m' (isMat_in h2) (isMat_in k2) (h1.symm.trans k1), rfl⟩
    · exact (k m h2 h1).elim
  · rcases k with ⟨rfl, k1, k2⟩ | ⟨rfl, rfl, k⟩
    · exact (h m' k2 k1).elim
    · exact ⟨rfl, rfl⟩
theorem matR_bad {s p : ByteArray} {j : Nat} {r : List Int} (hp : (splL s 47)[j]? = some p) (h : RowR p r false) : MatR s [] false := by
  refine .inr ⟨rfl, rfl, fun m' h1 h2 => ?_⟩
  rcases h with ⟨h, _⟩ | ⟨_, h⟩
  · cases h
  · have e : (rowsP s)[j]? = some (splL p 44) := by unfold rowsP; rw [List.getElem?_map, hp]; rfl
    rw [h2, List.getElem?_map] at e
    obtain ⟨r', e1, e2⟩ := Option.map_eq_some_iff.1 e
    exact h r' (isMat_in h1 r' (List.mem_of_getElem? e1)) e2.symm
theorem matR_no {s : ByteArray} {m : List (List Int)} (h : rowsP s = m.map txts) (hi : ∀ r ∈ m, inM r) (hm : isMat m = false) : MatR s [] false :=
  .inr ⟨rfl, rfl, fun m' h1 h2 => by
    have e := mat_inj m m' hi (isMat_in h1) (h.symm.trans h2)
    subst e
    rw [hm] at h1
    cases h1⟩
def MatE (s : ByteArray) (w : World) (e : Ending) (w' : World) : Prop := ∃ v' m b, e = .returned (.tuple #[v', .bool b]) ∧ OwnMat 28 3 w.heap.size w' v' m ∧ Hid (MatR s m b) ∧ Below w.heap.size w w'
theorem matE {s : ByteArray} {w w' : World} {e : Ending} {v : Value} {m : List (List Int)} {b : Bool} (h : e = .returned (.tuple #[v, .bool b])) (h1 : OwnMat 28 3 w.heap.size w' v m) (h2 : Hid (MatR s m b)) (h3 : Below w.heap.size w w') : MatE s w e w' := ⟨v, m, b, h, h1, h2, h3⟩
end Go.Proofs.Ytenjakgahniijaa
