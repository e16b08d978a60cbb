/- Contracts of the small functions on matrices, the program's and the reference's. No statement is proved here. -/
import Derived.Test.YtidfnhoeaofgeaaHelp
namespace Go.Proofs.Ytidfnhoeaofgeaa
open Go.RowKit Go.Deep
theorem l1In (a b c : Int) (w : World) :
    Calls Try.prog 61 #[.int .i64 a, .int .i64 b, .int .i64 c] w fun e w' => e = .returned (.bool (inR a b c)) ∧ w = w' := by
  go_enter Try.func61, Try.ntmps61
  go_wp2
  all_goals (go_ret; exact ⟨ret_bool (by unfold inR; simp [*]; try omega), rfl⟩)

end Go.Proofs.Ytidfnhoeaofgeaa
