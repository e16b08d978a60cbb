/- ParseInt and ParseNumber, the program's (by the library's contracts) and the reference's. No statement is proved here. -/
import Derived.Test.YtenjakgahniijaaReadP
import Derived.Lib.AtoiErrMem
import Derived.Lib.SmallJoins
import Derived.LaidLaws
import Derived.Deep.RegionHeld3
namespace Go.Proofs.Ytenjakgahniijaa
open Go.RowKit Go.Deep
theorem arr_one {α : Type} {a : Array α} {x : α} (h : a.toList = [x]) : a = #[x] := by cases a; simp at h; simp [h]
theorem toListX_inj {x y : ByteArray} (h : x.toList = y.toList) : x = y := by
  rw [ByteArray.toList_eq, ByteArray.toList_eq] at h
  exact bts_inj h
theorem bneX {x y : ByteArray} (h : ¬ x = y) : (x.toList != y.toList) = true := bne_iff_ne.2 fun e => h (toListX_inj e)
theorem bneX0 {x y : ByteArray} (h : x = y) : (x.toList != y.toList) = false := by subst h; simp
theorem atoi_bounds {l : List UInt8} {v : Int} (h : Lib.atoiAll l = .ok v) : -9223372036854775808 ≤ v ∧ v ≤ 9223372036854775807 := by
  unfold Lib.atoiAll at h
  split at h
  · cases h
  · simp only at h
    split at h
    · cases h
    · cases h
    · split at h
      · cases h
      · split at h
        · cases h
        · injection h with h
          subst h
          split <;> omega
theorem rd_none {lo hi : Int} {s : ByteArray} (hlo : -9223372036854775808 ≤ lo) (hhi : hi ≤ 9223372036854775807) (h : ∀ v, Lib.atoiAll s.data.toList = .ok v → False) : Rd lo hi s 0 false :=
  .inr ⟨rfl, rfl, fun _ h1 h2 h3 => h _ (fmtI_atoi (by omega) (by omega) h3)⟩
theorem rd_not {lo hi v : Int} {s : ByteArray} (hlo : -9223372036854775808 ≤ lo) (hhi : hi ≤ 9223372036854775807) (hv : Lib.atoiAll s.data.toList = .ok v) (h : lo ≤ v → v ≤ hi → fmtI v = s → False) : Rd lo hi s 0 false :=
  .inr ⟨rfl, rfl, fun m h1 h2 h3 => by
    have e := fmtI_atoi (by omega) (by omega) h3
    rw [hv] at e
    injection e with e
    subst e
    exact h h1 h2 h3⟩
end Go.Proofs.Ytenjakgahniijaa
