/- What every law of chapter 7 asks first; conditions: none. -/
import Derived.Test.YtpfhogbkbodfjaaRing
namespace Go.Proofs.Ytpfhogbkbodfjaa
open Go.RowKit
set_option linter.unusedVariables false
set_option linter.unusedSimpArgs false
namespace Ring
set_option maxHeartbeats 1000000 in
theorem awake_ok (w : World) : Calls Try.prog 25 #[] w fun e w' => e = .returned (.bool true) ∧ Below w.heap.size w w' := by
  go_enter Try.func25, Try.ntmps25
  go_wp2_with fail
  refine (new_any _ _ (by omega) (by omega)).mono ?_
  rintro e w1 ⟨p, rfl, hp, H1, k1⟩
  have K1 : Below w.heap.size w w1 := k1.below (fun _ _ h => h)
  clear k1
  go_wp2_with fail
  refine (add_any p 3 0 0 true _ (by omega) (by omega) (by omega) (by omega) H1).mono ?_
  rintro e w2 ⟨rfl, h2, k2⟩
  have H2 : At w2 p 3 1 1 := h2
  have K2 := below_keeps K1 k2 K1.size (fun i hi => by omega)
  clear h2 k2 K1 H1
  go_wp2_with fail
  refine (add_any p 3 1 1 false _ (by omega) (by omega) (by omega) (by omega) H2).mono ?_
  rintro e w3 ⟨rfl, h2, k2⟩
  have H3 : At w3 p 3 2 2 := h2
  have K3 := below_keeps K2 k2 K2.size (fun i hi => by omega)
  clear h2 k2 K2 H2
  go_wp2_with fail
  refine (add_any p 3 2 2 true _ (by omega) (by omega) (by omega) (by omega) H3).mono ?_
  rintro e w4 ⟨rfl, h2, k2⟩
  have H4 : At w4 p 3 3 5 := h2
  have K4 := below_keeps K3 k2 K3.size (fun i hi => by omega)
  clear h2 k2 K3 H3
  go_wp2_with fail
  refine (bits_any p 3 3 5 _ H4).mono ?_
  rintro e w5 ⟨rfl, rfl⟩
  go_wp2_with fail
  refine (yes_any p 3 3 5 _ (by omega) H4).mono ?_
  rintro e w5 ⟨rfl, rfl⟩
  rw [Ones.pop_5]
  go_wp2_with fail
  refine (len_any p 3 3 5 _ H4).mono ?_
  rintro e w5 ⟨rfl, rfl⟩
  go_wp2_with fail
  go_ret
  exact ⟨rfl, K4⟩
end Ring
end Go.Proofs.Ytpfhogbkbodfjaa
