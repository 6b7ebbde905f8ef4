/- The words of chapter 14's laws, read off their slice; conditions: none. -/
import Derived.Test.YtpfhogbkbodfjabBase
import Derived.Test.YtpfhogbkbodfjabArgs
namespace Go.Proofs.Ytpfhogbkbodfjab
open Go.RowKit Go.ChangeShapes Go.WideShapes Go.ChangeAt Go.Deep
set_option linter.unusedVariables false
set_option linter.unusedSimpArgs false
/-- One word of a ledger. -/
structure Act14 where
  o : Int
  t : Int
  n : ByteArray
  v : Int
  ho : -9223372036854775808 ≤ o ∧ o ≤ 9223372036854775807
  ht : -9223372036854775808 ≤ t ∧ t ≤ 9223372036854775807
  hn : n.size ≤ maxLen
  hv : -9223372036854775808 ≤ v ∧ v ≤ 9223372036854775807
def Act14.cells (x : Act14) : List Value := [.int .i64 x.o, .int .i64 x.t, .string x.n, .int .i64 x.v]
section
variable {H : Type} {enc : TypeId × Value → H} {w : World} {base : Nat} {spare : Nat → Bool} {held : Bool}
theorem el_act14 : ∀ m cs' y, DataW.trod enc Try.prog w base spare held m 93 cs' = some y → ∃ x : Act14, cs' = x.cells := fun m cs' y h => by
  obtain ⟨ys, n, _, _, hlen, hyl, hf⟩ := DataW.trod_struct Try.underlying93 h
  have hl : cs'.length = 4 := hlen.trans (by kernel_rfl)
  have hc : Try.prog.cellsOf 3 = 1 := by kernel_rfl
  have hc2 : Try.prog.cellsOf 9 = 1 := by kernel_rfl
  have hc3 : Try.prog.cellsOf 2 = 1 := by kernel_rfl
  obtain ⟨c0, c1, c2, c3, rfl⟩ : ∃ a b c d, cs' = [a, b, c, d] := by
    cases cs' with
    | nil => simp at hl
    | cons a l => cases l with
      | nil => simp at hl
      | cons b l => cases l with
        | nil => simp at hl
        | cons c l => cases l with
          | nil => simp at hl
          | cons d l => cases l with
            | nil => exact ⟨a, b, c, d, rfl⟩
            | cons e l => simp at hl
  clear hlen hl h
  obtain ⟨y0, h0⟩ : ∃ y0, ys[0]? = some y0 := ⟨_, List.getElem?_eq_getElem (by rw [hyl]; decide)⟩
  obtain ⟨y1, h1⟩ : ∃ y1, ys[1]? = some y1 := ⟨_, List.getElem?_eq_getElem (by rw [hyl]; decide)⟩
  obtain ⟨y2, h2⟩ : ∃ y2, ys[2]? = some y2 := ⟨_, List.getElem?_eq_getElem (by rw [hyl]; decide)⟩
  obtain ⟨y3, h3⟩ : ∃ y3, ys[3]? = some y3 := ⟨_, List.getElem?_eq_getElem (by rw [hyl]; decide)⟩
  have g0 : DataW.trod enc Try.prog w base spare held n 3 (([c0, c1, c2, c3].drop 0).take (Try.prog.cellsOf 3)) = some y0 := (hf 0 _ rfl).trans h0
  have g1 : DataW.trod enc Try.prog w base spare held n 3 (([c0, c1, c2, c3].drop 1).take (Try.prog.cellsOf 3)) = some y1 := (hf 1 _ rfl).trans h1
  have g2 : DataW.trod enc Try.prog w base spare held n 9 (([c0, c1, c2, c3].drop 2).take (Try.prog.cellsOf 9)) = some y2 := (hf 2 _ rfl).trans h2
  have g3 : DataW.trod enc Try.prog w base spare held n 2 (([c0, c1, c2, c3].drop 3).take (Try.prog.cellsOf 2)) = some y3 := (hf 3 _ rfl).trans h3
  rw [hc] at g0 g1
  rw [hc2] at g2
  rw [hc3] at g3
  obtain ⟨a, e0, _, q0⟩ := DataW.trod_int Try.underlying3 g0
  obtain ⟨b, e1, _, q1⟩ := DataW.trod_int Try.underlying3 g1
  obtain ⟨c, e2, _, q2⟩ := DataW.trod_string Try.underlying9 g2
  obtain ⟨d, e3, _, q3⟩ := DataW.trod_int Try.underlying2 g3
  simp at e0 e1 e2 e3
  subst e0 e1 e2 e3
  exact ⟨⟨a, b, c, d, wf_i64 q0, wf_i64 q1, q2, wf_i64 q3⟩, rfl⟩
end
end Go.Proofs.Ytpfhogbkbodfjab
