/- A slice of texts stays while one beside it grows. No statement is proved here. -/
import Derived.Test.YtloicjojhfpihaaDoorStrsH
import Derived.Test.YtloicjojhfpihaaDoorApp2
namespace Go.Proofs.YtloicjojhfpihaaDoor
open Go.RowKit Go.Deep
theorem OwnSH.grownOut {te : TypeId} {B H : Nat} {w w' : World} {v u : Value} {l : List ByteArray} (h : OwnSH te B H w v l) (hg : w.grownBy w' u.ownBlock) (ho : Out B H u) : OwnSH te B H w' v l := by
  refine ⟨h.1.grown hg ?_, h.2⟩
  cases e : v.ownBlock with
  | none => exact .inl rfl
  | some k =>
    refine .inr fun e2 => ?_
    have h1 := h.2 k e
    have h0 := (h.1.lt k e).1
    have h2 := ho k e2.symm
    omega
end Go.Proofs.YtloicjojhfpihaaDoor
