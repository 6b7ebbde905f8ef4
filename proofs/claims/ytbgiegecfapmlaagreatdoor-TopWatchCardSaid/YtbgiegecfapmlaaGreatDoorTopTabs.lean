/- The tables, out of what the statement lists; conditions: none. -/
import Derived.Test.YtbgiegecfapmlaaGreatDoorTop0
import Derived.Test.YtbgiegecfapmlaaGreatDoorCards
import Derived.Test.YtbgiegecfapmlaaGreatDoorTie
import Derived.Test.YtbgiegecfapmlaaGreatDoorArgs
import Derived.PinnedBridge
import Derived.Lib.LaidU8T
import Derived.Lay
import Derived.LaidOnce
import Derived.SevenTiedAt
import Derived.HandedShaped
namespace Go.Proofs.YtbgiegecfapmlaaGreatDoor
open Go.RowKit Go.ChangeShapes Go.WideShapes Go.Shelf Go.Lib
set_option linter.unusedVariables false
set_option maxRecDepth 100000
theorem own : ownKnob Tryz.prog.godebug = none := by kernel_rfl
theorem laidOut : laidOutB Tryz.prog = true := by kernel_rfl
theorem propsEq : (Rows.laid_unicode_properties : DataW Unit) = tabData .u8 propertiesTab := by kernel_rfl
theorem powEq : (Rows.laid_internal_strconv_uint64pow10 : DataW Unit) = tabData .u64 pow10Tab := by kernel_rfl
theorem acceptEq : (Rows.laid_unicode_utf8_acceptRanges : DataW Unit) = acceptData := by kernel_rfl
theorem xL : RExtra Tryz.prog Tryz.lays200_ren := ⟨by kernel_rfl, by kernel_rfl, by kernel_rfl, by kernel_rfl, by kernel_rfl, by kernel_rfl, by kernel_rfl, by kernel_rfl⟩
def u8_ren : Go.Shelf.Ren := ⟨fun n => n, fun | 5 => 5 | 119 => 260 | 138 => 265 | 139 => 266 | n => n, fun | 3 => 2 | 4 => 3 | n => n⟩
theorem u8L : U8Types Tryz.prog u8_ren := ⟨Tryz.underlying5, Tryz.underlying260, Tryz.underlying265, Tryz.underlying266⟩
theorem u8X : U8Extra Tryz.prog u8_ren := ⟨by kernel_rfl, by kernel_rfl, by kernel_rfl, by kernel_rfl, by kernel_rfl, by kernel_rfl, by kernel_rfl⟩
theorem tab_of_reads {P : Program} {w : World} {name : String} {k : IntKind} {zs : List Int} {g : Nat} {t e : TypeId} {n : Nat}
    (hg : P.globalNamed name = some g) (hty : (P.globals[g]?).map (·.type) = some t) (ht : P.underlying t = some (.array n e)) (he : P.underlying e = some (.int k)) (hce : P.cellsOf e = 1) (hct : P.cellsOf t = n)
    (h : VarReads P w name (tabData k zs)) : TabIs P w name k zs := by
  obtain ⟨g', t', cs, fuel, p, hg', ht', hvar, hd⟩ := h
  obtain rfl := Option.some.inj (hg.symm.trans hg')
  obtain rfl := Option.some.inj (hty.symm.trans ht')
  have hcs := cells_of_tab ht he hce hct hd
  unfold TabIs
  rw [hvar, ← hcs]
theorem tabs_of_laid {W : World} (h : laidMetH Tryz.prog Rows.topFirmRow.laid W) (hsh : W.ShapedOpen Tryz.prog) : Tabs W := by
  rw [MakeChecks.laidMetH_plain _ _ _ (by kernel_rfl)] at h
  have r1 := laidMet.reads h (n := "unicode.properties") (d := Rows.laid_unicode_properties) (by simp [Rows.topFirmRow])
  have r2 := laidMet.reads h (n := "unicode.Letter") (d := Rows.laid_unicode_Letter) (by simp [Rows.topFirmRow])
  have r3 := laidMet.reads h (n := "unicode/utf8.first") (d := Rows.laid_unicode_utf8_first) (by simp [Rows.topFirmRow])
  have r4 := laidMet.reads h (n := "unicode/utf8.acceptRanges") (d := Rows.laid_unicode_utf8_acceptRanges) (by simp [Rows.topFirmRow])
  have r5 := laidMet.reads h (n := "internal/strconv.uint64pow10") (d := Rows.laid_internal_strconv_uint64pow10) (by simp [Rows.topFirmRow])
  rw [propsEq] at r1
  rw [show Rows.laid_unicode_Letter = Pinned.letter from rfl, Pinned.letter_eq] at r2
  rw [show Rows.laid_unicode_utf8_first = Pinned.utf8First from rfl, Pinned.utf8First_eq] at r3
  rw [acceptEq] at r4
  rw [powEq] at r5
  exact ⟨tab_of_reads gProps (by kernel_rfl) Tryz.underlying260 Tryz.underlying5 (by kernel_rfl) (by kernel_rfl) r1,
    rvar_of_reads { Tryz.lays200 with } xL (by kernel_rfl) (by kernel_rfl) r2,
    utf8Tabs_of_readsT u8L u8X r3 r4,
    tab_of_reads gPow (by kernel_rfl) Tryz.underlying306 Tryz.underlying212 (by kernel_rfl) (by kernel_rfl) r5,
    Tryz.laysM146.s1_3 W hsh⟩
end Go.Proofs.YtbgiegecfapmlaaGreatDoor
