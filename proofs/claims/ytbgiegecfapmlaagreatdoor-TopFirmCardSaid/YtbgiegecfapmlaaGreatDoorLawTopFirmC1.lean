/- TopFirm: where only firm jobs come, none is ever refused: its row. -/
import Derived.Test.YtbgiegecfapmlaaGreatDoorLawTopFirmC0
namespace Go.Proofs.YtbgiegecfapmlaaGreatDoor
open Go.RowKit Go.ChangeShapes Go.WideShapes Go.ChangeAt Go.Shelf Go.Lib
set_option linter.unusedVariables false
set_option linter.unusedSimpArgs false
namespace TopFirm
theorem facts : joinedFacts Tryz.pinned.checked.prog 4 Tryz.f4 Rows.topFirmSpec Rows.topFirmRow = true := by
  unfold joinedFacts
  rw [fact1, fact2, fact3, fact4]
  exact of_decide_eq_true (by kernel_rfl)
theorem wrapper : (Tryz.f4).isWrapper Tryz.pinned.checked.prog Rows.topFirmRow.wrapper Rows.topFirmRow.mainSum := by
  unfold Func.isWrapper; first | (rw [if_pos (by decide +kernel)]; kernel_rfl) | (rw [if_neg (by decide +kernel)]; exact ⟨rfl, rfl⟩)
theorem over : Rows.topFirmRow.holds Tryz.pinned (OpenSpec.ofChange Rows.topFirmSpec) :=
  OpenClaim.holds_of_wide 4 Tryz.f4 rfl rfl rfl rfl rfl rfl rfl ⟨rfl, rfl, rfl, rfl, rfl⟩ rfl rfl rfl rfl rfl named Tryz.func4 facts
    (of_decide_eq_true (by kernel_rfl)) wrapper
    (fun os started H enc _ => lifted os started H enc)
end TopFirm
end Go.Proofs.YtbgiegecfapmlaaGreatDoor
