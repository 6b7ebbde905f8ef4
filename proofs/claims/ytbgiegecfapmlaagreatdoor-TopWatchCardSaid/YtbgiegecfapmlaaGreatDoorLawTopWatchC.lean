/- TopWatch: a monitor is broken just as often as windows of a name's jobs have too few met, by the order of their deadlines: the statement's card. -/
import Derived.Test.YtbgiegecfapmlaaGreatDoorLawTopWatchC1
namespace Go.Proofs.YtbgiegecfapmlaaGreatDoor
open Go.RowKit Go.ChangeShapes Go.WideShapes Go.ChangeAt Go.Shelf Go.Lib
set_option linter.unusedVariables false
set_option linter.unusedSimpArgs false
namespace TopWatch
/-- The statement. -/
theorem proved : Rows.TopWatchCardSaid :=
  Claim7.holds_tied_plain_at .later [] [.data, .data, .data, .data, .data, .pinned, .pinned] true (true, "81576156c8fcd13a818d491fd851c3d7e08d4dc3bfb4e0ce9dd7c4e20791e67b") true
    over (fun _ h => by cases h) (by kernel_rfl) (fun _ h => by cases h) topWatch_row_tie rfl ⟨rfl, rfl⟩ (by kernel_rfl) rfl
    (fun f fn hf hfn => by
      obtain rfl : f = 5 := Option.some.inj ((show Tryz.prog.funcNamed "tocsin/tocsintop.TopWatch" = some 5 by kernel_rfl).symm.trans hf) |>.symm
      obtain rfl : fn = Tryz.f5 := (Option.some.inj (Tryz.func5.symm.trans hfn)).symm
      exact ⟨by kernel_rfl, fun j t ht => by
        rw [Tryz.params5] at ht
        have hm : t ∈ [4, 22, 3, 3] := by simpa using Array.mem_of_getElem? ht
        have hall : ([4, 22, 3, 3].all fun u => !Tryz.prog.wantsStandIn u) = true := by kernel_rfl
        exact (show Tryz.prog.wantsStandIn t = false by simpa using List.all_eq_true.1 hall t hm)⟩)
    (by kernel_rfl)
#print axioms proved
end TopWatch
end Go.Proofs.YtbgiegecfapmlaaGreatDoor
