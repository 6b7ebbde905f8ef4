/- The words of chapter 4's laws, read off their slice; conditions: none. -/
import Derived.Test.YtpfhogbkbodfjabBase
import Derived.Test.YtpfhogbkbodfjabArgs
namespace Go.Proofs.Ytpfhogbkbodfjab
open Go.RowKit Go.ChangeShapes Go.WideShapes Go.ChangeAt Go.Deep
set_option linter.unusedVariables false
set_option linter.unusedSimpArgs false
/-- One word of an arena. -/
structure Act4 where
  o : Int
  n : Int
  s : Int
  g : Int
  v : ByteArray
  ho : -9223372036854775808 ≤ o ∧ o ≤ 9223372036854775807
  hn : -9223372036854775808 ≤ n ∧ n ≤ 9223372036854775807
  hs : -9223372036854775808 ≤ s ∧ s ≤ 9223372036854775807
  hg : -9223372036854775808 ≤ g ∧ g ≤ 9223372036854775807
  hv : v.size ≤ maxLen
def Act4.cells (x : Act4) : List Value := [.int .i64 x.o, .int .i64 x.n, .int .i64 x.s, .int .i64 x.g, .string x.v]
section
variable {H : Type} {enc : TypeId × Value → H} {w : World} {base : Nat} {spare : Nat → Bool} {held : Bool}
theorem el_handle4 : ∀ m cs' y, DataW.trod enc Try.prog w base spare held m 42 cs' = some y → ∃ s g : Int, cs' = [.int .i64 s, .int .i64 g] ∧ (-9223372036854775808 ≤ s ∧ s ≤ 9223372036854775807) ∧ (-9223372036854775808 ≤ g ∧ g ≤ 9223372036854775807) := fun m cs' y h => by
  obtain ⟨ys, n, _, _, hlen, hyl, hf⟩ := DataW.trod_struct Try.underlying42 h
  have hl : cs'.length = 2 := hlen.trans (by kernel_rfl)
  have hc : Try.prog.cellsOf 3 = 1 := by kernel_rfl
  have hc3 : Try.prog.cellsOf 2 = 1 := by kernel_rfl
  obtain ⟨c0, c1, rfl⟩ : ∃ a b, cs' = [a, b] := by
    cases cs' with
    | nil => simp at hl
    | cons a l => cases l with
      | nil => simp at hl
      | cons b l => cases l with
        | nil => exact ⟨a, b, rfl⟩
        | cons c l => simp at hl
  clear hlen hl h
  obtain ⟨y0, h0⟩ : ∃ y0, ys[0]? = some y0 := ⟨_, List.getElem?_eq_getElem (by rw [hyl]; decide)⟩
  obtain ⟨y1, h1⟩ : ∃ y1, ys[1]? = some y1 := ⟨_, List.getElem?_eq_getElem (by rw [hyl]; decide)⟩
  have g0 : DataW.trod enc Try.prog w base spare held n 3 (([c0, c1].drop 0).take (Try.prog.cellsOf 3)) = some y0 := (hf 0 _ rfl).trans h0
  have g1 : DataW.trod enc Try.prog w base spare held n 2 (([c0, c1].drop 1).take (Try.prog.cellsOf 2)) = some y1 := (hf 1 _ rfl).trans h1
  rw [hc] at g0
  rw [hc3] at g1
  obtain ⟨a, e0, _, q0⟩ := DataW.trod_int Try.underlying3 g0
  obtain ⟨b, e1, _, q1⟩ := DataW.trod_int Try.underlying2 g1
  simp at e0 e1
  subst e0 e1
  exact ⟨a, b, rfl, wf_i64 q0, wf_i64 q1⟩
theorem el_act4 : ∀ m cs' y, DataW.trod enc Try.prog w base spare held m 62 cs' = some y → ∃ x : Act4, cs' = x.cells := fun m cs' y h => by
  obtain ⟨ys, n, _, _, hlen, hyl, hf⟩ := DataW.trod_struct Try.underlying62 h
  have hl : cs'.length = 5 := hlen.trans (by kernel_rfl)
  have hc : Try.prog.cellsOf 3 = 1 := by kernel_rfl
  have hc2 : Try.prog.cellsOf 9 = 1 := by kernel_rfl
  have hc3 : Try.prog.cellsOf 42 = 2 := by kernel_rfl
  obtain ⟨c0, c1, c2, c3, c4, rfl⟩ : ∃ a b c d e, cs' = [a, b, c, d, e] := by
    cases cs' with
    | nil => simp at hl
    | cons a l => cases l with
      | nil => simp at hl
      | cons b l => cases l with
        | nil => simp at hl
        | cons c l => cases l with
          | nil => simp at hl
          | cons d l => cases l with
            | nil => simp at hl
            | cons e l => cases l with
              | nil => exact ⟨a, b, c, d, e, rfl⟩
              | cons f l => simp at hl
  clear hlen hl h
  obtain ⟨y0, h0⟩ : ∃ y0, ys[0]? = some y0 := ⟨_, List.getElem?_eq_getElem (by rw [hyl]; decide)⟩
  obtain ⟨y1, h1⟩ : ∃ y1, ys[1]? = some y1 := ⟨_, List.getElem?_eq_getElem (by rw [hyl]; decide)⟩
  obtain ⟨y2, h2⟩ : ∃ y2, ys[2]? = some y2 := ⟨_, List.getElem?_eq_getElem (by rw [hyl]; decide)⟩
  obtain ⟨y3, h3⟩ : ∃ y3, ys[3]? = some y3 := ⟨_, List.getElem?_eq_getElem (by rw [hyl]; decide)⟩
  have g0 : DataW.trod enc Try.prog w base spare held n 3 (([c0, c1, c2, c3, c4].drop 0).take (Try.prog.cellsOf 3)) = some y0 := (hf 0 _ rfl).trans h0
  have g1 : DataW.trod enc Try.prog w base spare held n 3 (([c0, c1, c2, c3, c4].drop 1).take (Try.prog.cellsOf 3)) = some y1 := (hf 1 _ rfl).trans h1
  have g2 : DataW.trod enc Try.prog w base spare held n 42 (([c0, c1, c2, c3, c4].drop 2).take (Try.prog.cellsOf 42)) = some y2 := (hf 2 _ rfl).trans h2
  have g3 : DataW.trod enc Try.prog w base spare held n 9 (([c0, c1, c2, c3, c4].drop 4).take (Try.prog.cellsOf 9)) = some y3 := (hf 3 _ rfl).trans h3
  rw [hc] at g0 g1
  rw [hc3] at g2
  rw [hc2] at g3
  obtain ⟨a, e0, _, q0⟩ := DataW.trod_int Try.underlying3 g0
  obtain ⟨b, e1, _, q1⟩ := DataW.trod_int Try.underlying3 g1
  obtain ⟨s, g, e2, q2, q2'⟩ := el_handle4 _ _ _ g2
  obtain ⟨d, e3, _, q3⟩ := DataW.trod_string Try.underlying9 g3
  simp at e0 e1 e2 e3
  obtain ⟨e2, e4⟩ := e2
  subst e0 e1 e2 e3 e4
  exact ⟨⟨a, b, s, g, d, wf_i64 q0, wf_i64 q1, q2, q2', q3⟩, rfl⟩
end
end Go.Proofs.Ytpfhogbkbodfjab
