/- TopFirm: where only firm jobs come, none is ever refused: the statement's card. -/
import Derived.Test.YtbgiegecfapmlaaGreatDoorLawTopFirmC1
namespace Go.Proofs.YtbgiegecfapmlaaGreatDoor
open Go.RowKit Go.ChangeShapes Go.WideShapes Go.ChangeAt Go.Shelf Go.Lib
set_option linter.unusedVariables false
set_option linter.unusedSimpArgs false
namespace TopFirm
/-- The statement. -/
theorem proved : Rows.TopFirmCardSaid :=
  Claim7.holds_tied_plain_at .later [] [.data, .data, .data, .data, .data, .pinned, .pinned] true (true, "81576156c8fcd13a818d491fd851c3d7e08d4dc3bfb4e0ce9dd7c4e20791e67b") true
    over (fun _ h => by cases h) (by kernel_rfl) (fun _ h => by cases h) topFirm_row_tie rfl ⟨rfl, rfl⟩ (by kernel_rfl) rfl
    (fun f fn hf hfn => by
      obtain rfl : f = 4 := Option.some.inj ((show Tryz.prog.funcNamed "tocsin/tocsintop.TopFirm" = some 4 by kernel_rfl).symm.trans hf) |>.symm
      obtain rfl : fn = Tryz.f4 := (Option.some.inj (Tryz.func4.symm.trans hfn)).symm
      exact ⟨by kernel_rfl, fun j t ht => by
        rw [Tryz.params4] at ht
        have hm : t ∈ [22] := by simpa using Array.mem_of_getElem? ht
        have hall : ([22].all fun u => !Tryz.prog.wantsStandIn u) = true := by kernel_rfl
        exact (show Tryz.prog.wantsStandIn t = false by simpa using List.all_eq_true.1 hall t hm)⟩)
    (by kernel_rfl)
#print axioms proved
end TopFirm
end Go.Proofs.YtbgiegecfapmlaaGreatDoor
