/- TopWatch: a monitor is broken just as often as windows of a name's jobs have too few met, by the order of their deadlines: its row. -/
import Derived.Test.YtbgiegecfapmlaaGreatDoorLawTopWatchC0
namespace Go.Proofs.YtbgiegecfapmlaaGreatDoor
open Go.RowKit Go.ChangeShapes Go.WideShapes Go.ChangeAt Go.Shelf Go.Lib
set_option linter.unusedVariables false
set_option linter.unusedSimpArgs false
namespace TopWatch
theorem facts : joinedFacts Tryz.pinned.checked.prog 5 Tryz.f5 Rows.topWatchSpec Rows.topWatchRow = true := by
  unfold joinedFacts
  rw [fact1, fact2, fact3, fact4]
  exact of_decide_eq_true (by kernel_rfl)
theorem wrapper : (Tryz.f5).isWrapper Tryz.pinned.checked.prog Rows.topWatchRow.wrapper Rows.topWatchRow.mainSum := by
  unfold Func.isWrapper; first | (rw [if_pos (by decide +kernel)]; kernel_rfl) | (rw [if_neg (by decide +kernel)]; exact ⟨rfl, rfl⟩)
theorem over : Rows.topWatchRow.holds Tryz.pinned (OpenSpec.ofChange Rows.topWatchSpec) :=
  OpenClaim.holds_of_wide 5 Tryz.f5 rfl rfl rfl rfl rfl rfl rfl ⟨rfl, rfl, rfl, rfl, rfl⟩ rfl rfl rfl rfl rfl named Tryz.func5 facts
    (of_decide_eq_true (by kernel_rfl)) wrapper
    (fun os started H enc _ => lifted os started H enc)
end TopWatch
end Go.Proofs.YtbgiegecfapmlaaGreatDoor
