/- The package-level tables of Go's library, as the statement lists them; conditions: none. -/
import Derived.Test.YtbgiegecfapmlaaGreatDoorBase
import Derived.Test.YtbgiegecfapmlaaGreatDoorShelf
namespace Go.Proofs.YtbgiegecfapmlaaGreatDoor
open Go.RowKit
set_option linter.unusedVariables false
set_option linter.unusedSimpArgs false
theorem gProps : Tryz.prog.globalNamed "unicode.properties" = some 0 := by kernel_rfl
theorem gPow : Tryz.prog.globalNamed "internal/strconv.uint64pow10" = some 4 := by kernel_rfl
/-- The tables hold what their initialisers lay. -/
structure Tabs (w : World) : Prop where
  props : Lib.TabIs Tryz.prog w "unicode.properties" .u8 Lib.propertiesTab
  letter : Lib.RVar 1 Lib.letterT w
  u8 : Lib.Utf8Tabs 2 3 w
  pow : Lib.TabIs Tryz.prog w "internal/strconv.uint64pow10" .u64 Lib.pow10Tab
  ml : ∃ m : Int, w.cell? ⟨5, 0, none⟩ = some (.int .i64 m)
theorem Tabs.below {w w' : World} (h : Tabs w) (b : Below w.heap.size w w') : Tabs w' := by
  refine ⟨TabIs_below gProps h.props b, RVar_below h.letter b, Utf8Tabs_below h.u8 b, TabIs_below gPow h.pow b, ?_⟩
  obtain ⟨m, hm⟩ := h.ml
  exact ⟨m, (b.cell (p := ⟨5, 0, none⟩) (World.block_lt_of_cell? w _ hm)).trans hm⟩
theorem Tabs.stay {w w' : World} (h : Tabs w) (k : Keeps (fun _ => False) w w') : Tabs w' := h.below (k.below fun _ _ h => h)
theorem Tabs.drewN {w : World} (h : Tabs w) (n : Nat) : Tabs (w.drewN n) := h.stay ((Keeps.refl _ w).drewN n)
end Go.Proofs.YtbgiegecfapmlaaGreatDoor
