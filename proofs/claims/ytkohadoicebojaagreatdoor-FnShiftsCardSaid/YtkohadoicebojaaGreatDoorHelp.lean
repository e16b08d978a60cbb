/- Contracts of the laws' own helpers on slices of numbers and rows (sizes, copies, comparisons). No statement is proved here. -/
import Derived.Test.YtkohadoicebojaaGreatDoorRows
import Derived.Test.YtkohadoicebojaaGreatDoorMem
import Derived.Test.YtkohadoicebojaaGreatDoorPure
import Derived.WalkKit
import Derived.WalkSpells
import Derived.WalkLawsBesides
import Derived.BigQuiet
import Derived.Deep.QuietTactic
namespace Go.Proofs.YtkohadoicebojaaGreatDoor
open Go.RowKit Go.Deep
theorem Tryz.infoInts : (Tryz.prog.info? 62).map (fun i => (i.zero, i.size, i.bytes)) = some (some (.slice none 0 0), 1, 24) := by kernel_rfl
theorem Tryz.infoInt : (Tryz.prog.info? 3).map (fun i => (i.zero, i.size, i.bytes)) = some (some (.int .i64 0), 1, 8) := by kernel_rfl


end Go.Proofs.YtkohadoicebojaaGreatDoor
