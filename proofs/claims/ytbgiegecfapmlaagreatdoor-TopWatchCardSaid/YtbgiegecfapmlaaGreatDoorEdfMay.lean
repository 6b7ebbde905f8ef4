/- edf.may where every number is in its bounds; conditions: none. -/
import Derived.Test.YtbgiegecfapmlaaGreatDoorJobs2
import Derived.Test.YtbgiegecfapmlaaGreatDoorEdfPlain
namespace Go.Proofs.YtbgiegecfapmlaaGreatDoor
open Go.RowKit
set_option linter.unusedVariables false
set_option linter.unusedSimpArgs false
namespace Edf
def lc (x : Lf) : List Value := [.int .i64 x.d, .int .i64 x.n]
def lv (x : Lf) : Value := .agg #[.int .i64 x.d, .int .i64 x.n]
theorem lc_len (x : Lf) : (lc x).length = 2 := rfl
theorem cells2 {w : World} {A : Option Addr} {n : Nat} {ls : List Lf} (h : Row lc 2 w A n ls) {k : Nat} (hk : k < n) :
    ∃ b off x, A = some ⟨b, off, none⟩ ∧ ls[k]? = some x ∧ b < w.heap.size ∧ w.cell? ⟨b, off + k * 2, none⟩ = some (.int .i64 x.d) ∧ w.cell? ⟨b, off + k * 2 + 1, none⟩ = some (.int .i64 x.n) := by
  obtain ⟨b, off, x, hA, hx, hlt, hc⟩ := h.at_ (Below.refl _ _) hk
  exact ⟨b, off, x, hA, hx, hlt, hc 0 _ rfl, hc 1 _ rfl⟩
def In (v : Int) : Prop := -1000000 ≤ v ∧ v ≤ 1000000
structure Lf.In (x : Lf) : Prop where
  d : Edf.In x.d
  n : Edf.In x.n
theorem in_true {v : Int} (h : In v) (w : World) : Calls Tryz.prog 168 #[.int .i64 v] w fun e w' => e = .returned (.bool true) ∧ w' = w := by
  obtain ⟨h1, h2⟩ := h
  go_enter Tryz.func168, Tryz.ntmps168
  go_wp2_with fail
  go_ret
  exact ⟨by first | rfl | (simp; omega), rfl⟩
set_option maxRecDepth 100000 in
theorem bad_false {x : Lf} (h : x.In) (w : World) : Calls Tryz.prog 170 #[lv x] w fun e w' => e = .returned (.bool false) ∧ Below w.heap.size w w' := by
  have X := Blk.new w 207 (lc x)
  have B := (Below.refl w.heap.size w).alloc (Nat.le_refl _) (.cells (lc x).toArray 207)
  have x0 := X.cellAt (i := 0) rfl
  have x1 := X.cellAt (i := 1) rfl
  unfold lv
  unfold lc at B x0 x1
  clear X
  have H1 := Lib.hid h.d
  have H2 := Lib.hid h.n
  clear h
  go_enter Tryz.func170, Tryz.ntmps170
  go_wp2_with (go_at_call 168; (first | (with_reducible refine (in_true H1.out _).mono ?_) | (refine (in_true H2.out _).mono ?_)); rintro e w2 ⟨rfl, rfl⟩)
  go_ret
  exact ⟨rfl, B⟩
set_option maxRecDepth 100000 in
set_option maxHeartbeats 4000000 in
theorem index_is {w : World} {A : Option Addr} {n c : Nat} {ls : List Lf} (R : Row lc 2 w A n ls) (hs : ∀ x ∈ ls, x.In) :
    Calls Tryz.prog 187 #[.slice A n c, .func (.func 170) #[] #[]] w fun en w' => en = .returned (.int .i64 (-1)) ∧ Below w.heap.size w w' := by
  have hml := R.2.1
  unfold maxLen at hml
  have HR := Lib.hid R
  have HS := Lib.hid hs
  have HML := Lib.hid hml
  clear R hml hs
  go_enter Tryz.func187, Tryz.ntmps187
  go_wp2_with fail
  go_loopw [8] (fun v wr => ∃ i : Nat, i ≤ n ∧ v = .int .i64 (i : Int) ∧ Below w.heap.size w wr) (fun v _ => n - (intOf v).toNat)
  case atStart => exact ⟨0, by omega, rfl, Below.refl _ _⟩
  case round =>
    obtain ⟨i, hi, rfl, B⟩ := hrel
    by_cases hlt : i < n
    · have hlti : (i : Int) < (n : Int) := by omega
      obtain ⟨b, off, x, rfl, hx, hb, c0, c1⟩ := cells2 (HR.out.below B) hlt
      have hi0 : (0 : Int) ≤ (i : Int) := by omega
      have HML2 := HML.out
      have hi1 : (i : Int) + 1 ≤ 9223372036854775807 := by omega
      have C := bad_false (HS.out x (List.mem_of_getElem? hx)) wr
      unfold lv at C
      have hszz := Lib.hid B.size
      clear hb hx HML2
      go_wp2_with (go_at_call 170; refine C.mono ?_; rintro e w2 ⟨rfl, hb⟩)
      go_roundw
      case rel => exact ⟨i + 1, by omega, by simp, B.trans (hb.mono hszz.out)⟩
      case measure => simp [intOf]; omega
    · have hlti : ¬ (i : Int) < (n : Int) := by omega
      go_wp2_with fail
      go_ret
      exact ⟨rfl, B⟩
theorem contains_is {w : World} {A : Option Addr} {n c : Nat} {ls : List Lf} (R : Row lc 2 w A n ls) (hs : ∀ x ∈ ls, x.In) :
    Calls Tryz.prog 169 #[.slice A n c, .func (.func 170) #[] #[]] w fun en w' => en = .returned (.bool false) ∧ Below w.heap.size w w' := by
  have C := index_is (c := c) R hs
  clear R hs
  go_enter Tryz.func169, Tryz.ntmps169
  go_wp2_with fail
  refine C.mono ?_
  rintro e w2 ⟨rfl, hb⟩
  go_wp2_with fail
  go_ret
  exact ⟨by first | rfl | simp, hb⟩
theorem may_true {w : World} {A : Option Addr} {n c : Nat} {ls : List Lf} (R : Row lc 2 w A n ls) (hs : ∀ x ∈ ls, x.In) (hn : n ≤ 1000) {now : Int} (hnow : In now) :
    Calls Tryz.prog 142 #[.int .i64 now, .slice A n c] w fun en w' => en = .returned (.bool true) ∧ Below w.heap.size w w' := by
  have C := contains_is (c := c) R hs
  have HI := Lib.hid hnow
  have hni : (n : Int) ≤ 1000 := by omega
  clear R hs hnow hn
  go_enter Tryz.func142, Tryz.ntmps142
  go_wp2_with fail
  refine (in_true HI.out _).mono ?_
  rintro e w2 ⟨rfl, rfl⟩
  go_wp2_with fail
  refine C.mono ?_
  rintro e w2 ⟨rfl, hb⟩
  go_wp2_with fail
  go_ret
  exact ⟨by first | rfl | simp, hb⟩
end Edf
end Go.Proofs.YtbgiegecfapmlaaGreatDoor
