/- Contracts of ReachOf, second part. No statement is proved here. -/
import Derived.Test.YtkohadoicebojaaGreatDoorReach
namespace Go.Proofs.YtkohadoicebojaaGreatDoor
open Go.RowKit Go.Deep
def bitB (b : Bool) : Int := if b = true then 1 else 0
theorem bitB_bit (x : Int) : bitB (decide (0 < x)) = bit x := by unfold bitB bit; by_cases h : 0 < x <;> simp [h]
theorem bits_and {y z : Int} (hy : y = 0 ∨ y = 1) (hz : z = 0 ∨ z = 1) : bits .and .i64 y z = mn y z := by
  rcases hy with rfl | rfl <;> rcases hz with rfl | rfl <;> decide
theorem bits_or {x y z : Int} (hx : x = 0 ∨ x = 1) (hy : y = 0 ∨ y = 1) (hz : z = 0 ∨ z = 1) : bits .or .i64 x (mn y z) = stp x y z := by
  rcases hx with rfl | rfl <;> rcases hy with rfl | rfl <;> rcases hz with rfl | rfl <;> decide
end Go.Proofs.YtkohadoicebojaaGreatDoor
