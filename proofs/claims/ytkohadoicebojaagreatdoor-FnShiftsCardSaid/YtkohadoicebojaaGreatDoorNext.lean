/- The lists of next vertices. No statement is proved here. -/
import Derived.Test.YtkohadoicebojaaGreatDoorLive
namespace Go.Proofs.YtkohadoicebojaaGreatDoor
open Go.RowKit Go.Deep
def nxTo (e : Nat → Nat → Bool) (n k : Nat) : List (List Int) := (List.range k).map fun i => lvTo (e i) n
theorem nxTo_succ (e : Nat → Nat → Bool) (n k : Nat) : nxTo e n (k + 1) = nxTo e n k ++ [lvTo (e k) n] := by simp [nxTo, List.range_succ]
theorem nxTo_length (e : Nat → Nat → Bool) (n k : Nat) : (nxTo e n k).length = k := by simp [nxTo]
end Go.Proofs.YtkohadoicebojaaGreatDoor
