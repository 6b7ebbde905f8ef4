/- Len, at the kind string; conditions: at most 1000 places. -/
import Derived.Test.YtpfhogbkbodfjabArS
namespace Go.Proofs.Ytpfhogbkbodfjab
open Go.RowKit
set_option linter.unusedVariables false
set_option linter.unusedSimpArgs false
namespace ArS
open Ar
set_option maxHeartbeats 400000 in
theorem len_any (p : Nat) (A : Option Addr) (c : Nat) (B : Option Addr) (d room : Nat) (ps : List (APlace El)) (fr : List Nat) (n : Nat) (w : World) (h : At w p A c B d room ps fr) (hl : ps.length ≤ 1000) (hf : fr.length ≤ 1000) (hn : n + fr.length = ps.length) :
    Calls Try.prog 46 #[.pointer (some ⟨p, 0, none⟩)] w fun e w' => e = .returned (.int .i64 (n : Int)) ∧ Drawn w w' := by
  have D := Drawn.refl w
  have c1 := h.Bl.cellAt (i := 1) rfl
  have c2 := h.Bl.cellAt (i := 2) rfl
  have hw : IntKind.i64.wrap ((ps.length : Int) - (fr.length : Int)) = (n : Int) := by rw [IntWalk.i64_in _ (by omega)]; omega
  clear h hn
  go_enter Try.func46, Try.ntmps46
  go_wp2_with fail
  go_quiet (fail)
  clear hw
  go_wp2_with fail
  go_ret
  exact ⟨rfl, D.drewN _⟩
end ArS
end Go.Proofs.Ytpfhogbkbodfjab
