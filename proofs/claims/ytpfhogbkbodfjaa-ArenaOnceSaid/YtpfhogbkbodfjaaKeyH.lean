/- Handles as the keys of a map; conditions: none. -/
import Derived.Test.YtpfhogbkbodfjaaMap
import Derived.DeepKeys4
import Derived.Maps.Keyed
namespace Go.Proofs.Ytpfhogbkbodfjaa
open Go.RowKit Go.MapKept
set_option linter.unusedVariables false
set_option linter.unusedSimpArgs false
namespace KeyH
/-- A handle: a slot, and how often it was used. -/
abbrev Hd := {a : Nat × Nat // a.1 ≤ 1000 ∧ a.2 ≤ 1000000}
def kv (a : Hd) : Value := .agg #[.int .i64 (a.1.1 : Int), .int .i64 (a.1.2 : Int)]
theorem laid : laidOutB Try.prog = true := by kernel_rfl
theorem keyed : Go.Maps.Keyed Try.prog 64 := Go.Maps.Keyed.of_law (deep_law_laid (m := 3) laid (by omega) (of_decide_eq_true (by kernel_rfl)) (by kernel_rfl) (by kernel_rfl))
theorem wf_small {n : Nat} (h : n ≤ 1000000) : (Lit.int .i64 (n : Int)).wf = true := WalkArith.wf_i64 (by omega)
theorem key_some (a : Hd) : ∃ l, keyOf Try.prog 64 (kv a) = some l := by
  obtain ⟨⟨s, g⟩, h1, h2⟩ := a
  have w1 := wf_small (n := s) (by dsimp only at h1; omega)
  have w2 := wf_small (n := g) h2
  have hk : Try.prog.keyType 64 = true := by kernel_rfl
  have hc : Try.prog.cellsOf 3 = 1 := by kernel_rfl
  have hc2 : Try.prog.cellsOf 2 = 1 := by kernel_rfl
  have hch : Try.prog.cellsOf 64 = 2 := by kernel_rfl
  have hts : ∃ n, Try.prog.types.size = n + 1 := ⟨Try.prog.types.size - 1, by have : 0 < Try.prog.types.size := of_decide_eq_true (by kernel_rfl); omega⟩
  obtain ⟨n, hn⟩ := hts
  have hfm : (kv ⟨(s, g), h1, h2⟩).formed Try.prog 64 = true := by
    simp only [kv, Value.formed, Try.underlying64]
    simp
    exact hch.symm
  unfold keyOf
  simp only [Try.underlying64, hk, hfm, Bool.true_and, if_true]
  rw [hn]
  simp [Program.keyLits, Try.underlying64, Try.underlying3, Try.underlying2, kv, Value.cells, hc, hc2, hch, w1, w2]
theorem key_handle : KeyOk Try.prog 64 kv where
  inj a b h := by
    obtain ⟨⟨s, g⟩, _, _⟩ := a
    obtain ⟨⟨s', g'⟩, _, _⟩ := b
    simp [kv] at h
    obtain ⟨h1, h2⟩ := h
    simp
    omega
  check e a w := by
    obtain ⟨l, hl⟩ := key_some a
    exact keyed.check w e hl
  find l a w h := by
    obtain ⟨k, hk⟩ := key_some a
    exact keyed.find w hk l (fun x hx => by obtain ⟨b, hb⟩ := h x hx; rw [hb]; exact key_some b)
  stays a w := by
    obtain ⟨l, hl⟩ := key_some a
    exact keyed.stays w hl
end KeyH
end Go.Proofs.Ytpfhogbkbodfjaa
