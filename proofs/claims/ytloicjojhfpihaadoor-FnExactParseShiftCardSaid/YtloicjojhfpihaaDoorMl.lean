/- A variable of the library holds some number. No statement is proved here. -/
import Derived.Test.YtloicjojhfpihaaDoorMem
namespace Go.Proofs.YtloicjojhfpihaaDoor
open Go.RowKit Go.Deep
/-- A variable of the library's holds some number. -/
def Ml (w : World) : Prop := ∃ m, w.cell? ⟨0, 0, none⟩ = some (.int .i64 m)
theorem Ml.keep {w w' : World} (h : Ml w) (hb : Below w.heap.size w w') : Ml w' := by
  obtain ⟨m, hm⟩ := h
  exact ⟨m, by rw [hb.cell (p := ⟨0, 0, none⟩) (World.block_lt_of_cell? w _ hm)]; exact hm⟩
end Go.Proofs.YtloicjojhfpihaaDoor
