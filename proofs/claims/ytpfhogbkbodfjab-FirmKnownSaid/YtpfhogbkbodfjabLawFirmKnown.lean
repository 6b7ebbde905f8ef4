/- The law FirmKnown returns true at every input and leaves its arguments alone. Conditions: none. -/
import Derived.Test.YtpfhogbkbodfjabAwake16
namespace Go.Proofs.Ytpfhogbkbodfjab
open Go.RowKit Go.ChangeShapes Go.WideShapes Go.ChangeAt Go.Deep
set_option linter.unusedVariables false
set_option linter.unusedSimpArgs false
namespace FirmKnown
open Mon Win
theorem may_zero (k : Nat) (xs : List Bool) (n : Nat) : may 0 k xs n = true := by
  induction n with
  | zero => rfl
  | succ n ih => simp only [may]; rw [ih]; simp [bad]
theorem may_m {w : World} {p m k : Nat} {F : Nat → Prop} {xs : List Bool} {bs : List Nat} (n : Int) (wr : World) (M : Mem1 w p F m k xs bs wr) (h1 : 1 ≤ k) (h2 : k ≤ 64) (hm : m ≤ k) (hl : xs.length ≤ 190) (b : Bool) (hb : may m k xs (min n.toNat 100) = b) :
    Calls Try.prog 68 #[.pointer (some ⟨p, 0, none⟩), .int .i64 n] wr fun e w' => e = .returned (.bool b) ∧ Mem1 w p F m k xs bs w' ∧ Keeps (fun _ => False) wr w' := by
  subst hb
  refine (may_any p F m k xs bs n wr M.P h1 h2 hm hl).mono ?_
  rintro e w' ⟨he, kp⟩
  exact ⟨he, M.keep kp, kp⟩
set_option maxRecDepth 100000 in
set_option maxHeartbeats 4000000 in
theorem walk (w : World) : Calls Try.prog 13 #[] w fun e w' => e = .returned (.bool true) ∧ Below w.heap.size w w' := by
  go_enter Try.func13, Try.ntmps13
  go_wp2_with fail
  refine (awake_ok w).mono ?_
  rintro e wa ⟨rfl, ba⟩
  go_wp2_with fail
  refine (new_no 2 1 wa (by omega)).mono ?_
  rintro e w1 ⟨rfl, k1⟩
  have b1 := below_keeps ba k1 ba.size (fun _ h => h.elim)
  clear ba k1
  go_wp2_with fail
  refine (new_no 0 65 w1 (by omega)).mono ?_
  rintro e w2 ⟨rfl, k2⟩
  have b2 := below_keeps b1 k2 b1.size (fun _ h => h.elim)
  clear b1 k2
  go_wp2_with fail
  refine (new_no (-1) 1 w2 (by omega)).mono ?_
  rintro e w3 ⟨rfl, k3⟩
  have b3 := below_keeps b2 k3 b2.size (fun _ h => h.elim)
  clear b2 k3
  go_wp2_with fail
  refine (new_m 2 3 w w3 b3 (by omega) (by omega) (by omega)).mono ?_
  rintro e w4 ⟨p, F, rfl, M4, _, _⟩
  clear b3
  go_wp2_with fail
  refine (worst_no M4.P (by simp) (by omega)).mono ?_
  rintro e w5 ⟨rfl, D5⟩
  have M5 := M4.keep (D5.keeps _)
  clear M4 D5
  go_wp2_with fail
  refine (may_m 2 _ M5 (by omega) (by omega) (by omega) (by simp) true (by decide)).mono ?_
  rintro e w6 ⟨rfl, M6, _⟩
  clear M5
  go_wp2_with fail
  refine (may_m 3 _ M6 (by omega) (by omega) (by omega) (by simp) false (by decide)).mono ?_
  rintro e w7 ⟨rfl, M7, _⟩
  clear M6
  go_wp2_with fail
  refine (add_m true _ M7 (by omega) (by omega) (by omega) (by simp) (by simp) false (by decide) [] rfl).mono ?_
  rintro e w8 ⟨rfl, ⟨F8, M8⟩, _⟩
  clear M7
  go_wp2_with fail
  refine (add_m true _ M8 (by omega) (by omega) (by omega) (by simp) (by simp) false (by decide) [] rfl).mono ?_
  rintro e w9 ⟨rfl, ⟨F9, M9⟩, _⟩
  clear M8
  go_wp2_with fail
  refine (may_m 1 _ M9 (by omega) (by omega) (by omega) (by simp) true (by decide)).mono ?_
  rintro e w10 ⟨rfl, M10, _⟩
  clear M9
  go_wp2_with fail
  refine (may_m 2 _ M10 (by omega) (by omega) (by omega) (by simp) false (by decide)).mono ?_
  rintro e w11 ⟨rfl, M11, _⟩
  clear M10
  go_wp2_with fail
  refine (add_m false _ M11 (by omega) (by omega) (by omega) (by simp) (by simp) false (by decide) [] rfl).mono ?_
  rintro e w12 ⟨rfl, ⟨F12, M12⟩, _⟩
  clear M11
  go_wp2_with fail
  have Y13 := worst_yes M12.P (by simp) (by simp)
  rw [show wst 3 ([] ++ [true] ++ [true] ++ [false]) = 2 by decide] at Y13
  refine Y13.mono ?_
  rintro e w13 ⟨rfl, D13⟩
  have M13 := M12.keep (D13.keeps _)
  clear M12 D13 Y13
  go_wp2_with fail
  refine (new_m 0 4 w w13 M13.B (by omega) (by omega) (by omega)).mono ?_
  rintro e w14 ⟨z, Z, rfl, Z14, _, k14⟩
  have M14 := M13.keep k14
  clear M13 k14
  go_wp2_with fail
  refine (may_m 1099511627776 _ Z14 (by omega) (by omega) (by omega) (by simp) true (may_zero _ _ _)).mono ?_
  rintro e w15 ⟨rfl, Z15, k15⟩
  have M15 := M14.keep k15
  clear M14 Z14 Z15 k15
  go_wp2_with fail
  refine (may_m 1 _ M15 (by omega) (by omega) (by omega) (by simp) false (by decide)).mono ?_
  rintro e w16 ⟨rfl, M16, _⟩
  clear M15
  go_wp2_with fail
  refine (may_m (-1) _ M16 (by omega) (by omega) (by omega) (by simp) true (by decide)).mono ?_
  rintro e w17 ⟨rfl, M17, _⟩
  clear M16
  go_wp2_with fail
  go_ret
  exact ⟨rfl, M17.B⟩
theorem own : ownKnob Try.prog.godebug = none := by kernel_rfl
set_option maxRecDepth 100000 in
theorem lifted (os : Os) (started : os.Started) (H : Type) (enc : TypeId × Value → H) :
    ReturnsInHanded {} Try.checked os 13 .any (Rows.firmKnownSpec.pre6 enc Try.prog Try.f13 Rows.firmKnownRow.domain false) (Rows.firmKnownSpec.post enc Try.prog Try.f13 false true false false) := by
  refine returnsInHanded_of_change (C := Try.checked) own started (by kernel_rfl) Try.func13
    (ChangeSpec.witness6 (enc := enc) (C := Try.checked) false ⟨#[], #[], []⟩ 8 (by kernel_rfl) (by kernel_rfl) (by kernel_rfl) (by kernel_rfl)) ?_
  intro W base args ds gs before hval0 hW hcnd _
  have hval : ∀ (j : Nat) t v, Try.f13.params[j]? = some t → args[j]? = some v → Value.okWide Try.prog W .any base t v := hval0
  have hW' := hW
  obtain ⟨p, q, hA0, hV, rfl, hfz, hnd⟩ := hW
  have hA : DataW.TrodAll enc Try.prog W 0 (fun _ => true) true Try.f13.params.toList args.toList ds p := hA0
  rw [Try.params13] at hA hval
  obtain ⟨hargs, rfl, rfl⟩ := trodAll_nil hA
  obtain rfl : args = #[] := by cases args; simp_all
  obtain ⟨rfl, rfl⟩ := trodVars_none hV
  clear hA0 hval0
  refine (walk  W ).mono fun e W' ⟨he, bel⟩ => ?_
  subst he
  exact ⟨_, rfl, _, _, _, [], _, [], hW', trodAll_mk1 (shut_bool Try.underlying4 _), trodAll_mk0, rfl, bel.frame _, fun h => by cases h⟩
theorem over : Rows.firmKnownRow.holds Try.pinned (OpenSpec.ofChange Rows.firmKnownSpec) :=
  OpenClaim.holds_of_wide 13 Try.f13 rfl rfl rfl rfl rfl rfl rfl ⟨rfl, rfl, rfl, rfl, rfl⟩ rfl rfl rfl rfl rfl (by kernel_rfl) Try.func13 (by kernel_rfl)
    (of_decide_eq_true (by kernel_rfl)) (by unfold Func.isWrapper; first | (rw [if_pos (by decide +kernel)]; kernel_rfl) | (rw [if_neg (by decide +kernel)]; exact ⟨rfl, rfl⟩))
    (fun os started H enc _ => lifted os started H enc)
/-- The statement. -/
theorem proved : Rows.FirmKnownSaid := over
#print axioms proved
end FirmKnown
end Go.Proofs.Ytpfhogbkbodfjab
