/- TopPieces: ticks that are run one by one, or many at a time, are the same: its row. -/
import Derived.Test.YtbgiegecfapmlaaGreatDoorLawTopPiecesC0
namespace Go.Proofs.YtbgiegecfapmlaaGreatDoor
open Go.RowKit Go.ChangeShapes Go.WideShapes Go.ChangeAt Go.Shelf Go.Lib
set_option linter.unusedVariables false
set_option linter.unusedSimpArgs false
namespace TopPieces
theorem facts : joinedFacts Tryz.pinned.checked.prog 3 Tryz.f3 Rows.topPiecesSpec Rows.topPiecesRow = true := by
  unfold joinedFacts
  rw [fact1, fact2, fact3, fact4]
  exact of_decide_eq_true (by kernel_rfl)
theorem wrapper : (Tryz.f3).isWrapper Tryz.pinned.checked.prog Rows.topPiecesRow.wrapper Rows.topPiecesRow.mainSum := by
  unfold Func.isWrapper; first | (rw [if_pos (by decide +kernel)]; kernel_rfl) | (rw [if_neg (by decide +kernel)]; exact ⟨rfl, rfl⟩)
theorem over : Rows.topPiecesRow.holds Tryz.pinned (OpenSpec.ofChange Rows.topPiecesSpec) :=
  OpenClaim.holds_of_wide 3 Tryz.f3 rfl rfl rfl rfl rfl rfl rfl ⟨rfl, rfl, rfl, rfl, rfl⟩ rfl rfl rfl rfl rfl named Tryz.func3 facts
    (of_decide_eq_true (by kernel_rfl)) wrapper
    (fun os started H enc _ => lifted os started H enc)
end TopPieces
end Go.Proofs.YtbgiegecfapmlaaGreatDoor
