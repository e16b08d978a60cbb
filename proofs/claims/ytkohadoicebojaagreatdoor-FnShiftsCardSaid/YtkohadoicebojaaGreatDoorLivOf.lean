/- LivelyOf and IsLively. No statement is proved here. -/
import Derived.Test.YtkohadoicebojaaGreatDoorLively
namespace Go.Proofs.YtkohadoicebojaaGreatDoor
open Go.RowKit Go.Deep
theorem beq_cast (a b : Nat) : ((a : Int) == (b : Int)) = decide (a = b) := by
  by_cases h : a = b
  · subst h; simp
  · have h2 : ¬ (a : Int) = (b : Int) := by omega
    rw [decide_eq_false h]
    exact beq_eq_false_iff_ne.2 h2
def isLively (m : List (List Int)) : Bool := isMat m && decide ((livelyOf m).length = m.length)
theorem nxTo_rows {e : Nat → Nat → Bool} {n i : Nat} {r : List Int} (h : (nxTo e n n)[i]? = some r) (hn : n ≤ 1000) : r.length ≤ 4000000 ∧ ∀ x ∈ r, 0 ≤ x ∧ x < n := by
  have hi := (List.getElem?_eq_some_iff.1 h).1
  rw [nxTo_length] at hi
  have h2 : (nxTo e n n)[i]? = some (lvTo (e i) n) := by simp [nxTo, hi]
  rw [h2] at h
  cases h
  refine ⟨by have := lvTo_len (e i) n; omega, ?_⟩
  have key : ∀ (L : Nat → Bool) (k : Nat), ∀ x ∈ lvTo L k, 0 ≤ x ∧ x < k := by
    intro L k
    induction k with
    | zero => intro x hx; simp [lvTo] at hx
    | succ k ih =>
      intro x hx
      rw [lvTo, List.mem_append] at hx
      rcases hx with hx | hx
      · have := ih x hx; omega
      · split at hx
        · rw [List.mem_singleton] at hx; omega
        · cases hx
  exact key _ _
end Go.Proofs.YtkohadoicebojaaGreatDoor
