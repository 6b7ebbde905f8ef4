/- The law FateKnown returns true. Conditions: none. -/
import Derived.Test.YtpfhogbkbodfjaaAwake15
import Derived.Test.YtpfhogbkbodfjaaArgs
namespace Go.Proofs.Ytpfhogbkbodfjaa
open Go.RowKit Go.ChangeShapes Go.WideShapes Go.ChangeAt Go.Deep
set_option linter.unusedVariables false
set_option linter.unusedSimpArgs false
namespace FateKnown
open Fate
structure Inv (w : World) (p g : Nat) (xs : List Fa) (wr : World) : Prop where
  P : Fate.At wr p g xs
  B : Below w.heap.size w wr
  z : w.heap.size ≤ wr.heap.size
theorem Inv.keep {w : World} {p g : Nat} {xs : List Fa} {w1 w2 : World} (h : Inv w p g xs w1) (k : Keeps (fun _ => False) w1 w2) : Inv w p g xs w2 :=
  ⟨h.P.none k, below_keeps h.B k h.z (fun _ h => h.elim), Nat.le_trans h.z k.size⟩
set_option maxRecDepth 100000 in
set_option maxHeartbeats 4000000 in
theorem walk (w : World) : Calls Try.prog 8 #[] w fun e w' => e = .returned (.bool true) ∧ Below w.heap.size w w' := by
  have heq : ∀ W : World, (binOp .eql 34 (.agg #[.int .i64 0, .int .i64 0]) (.agg #[.int .i64 0, .int .i64 0])).run Try.prog W = .ok (.bool true) W := fun _ => by kernel_rfl
  go_enter Try.func8, Try.ntmps8
  go_wp2_with fail
  refine (awake_ok w).mono ?_
  rintro e wa ⟨rfl, ba⟩
  go_wp2_with fail
  refine (new_no (-1) _ (by omega)).mono ?_
  rintro e wb ⟨rfl, rfl⟩
  go_wp2_with fail
  refine (new_no 201 _ (by omega)).mono ?_
  rintro e wb ⟨rfl, rfl⟩
  go_wp2_with fail
  refine (new_any 2 _ (by omega)).mono ?_
  rintro e w1 ⟨p, g, rfl, hp, hg, P1, k1⟩
  have I1 : Inv w p g [⟨0, 0⟩, ⟨0, 0⟩] w1 := ⟨P1, below_keeps ba k1 ba.size (fun _ h => h.elim), Nat.le_trans ba.size k1.size⟩
  clear P1 k1 ba hp hg
  go_wp2_with fail
  refine (say_no p g _ 2 1 0 _ (by simp) I1.P (.inl (by simp))).mono ?_
  rintro e wb ⟨rfl, rfl⟩
  go_wp2_with fail
  refine (say_no p g _ 0 0 0 _ (by simp) I1.P (.inr (by omega))).mono ?_
  rintro e wb ⟨rfl, rfl⟩
  go_wp2_with fail
  refine (say_no p g _ 0 6 0 _ (by simp) I1.P (.inr (by omega))).mono ?_
  rintro e wb ⟨rfl, rfl⟩
  go_wp2_with fail
  refine (say_no p g _ 0 1 (-1) _ (by simp) I1.P (.inr (by omega))).mono ?_
  rintro e wb ⟨rfl, rfl⟩
  go_wp2_with fail
  refine (of_no p g _ (-1) _ (by simp) I1.P (by simp)).mono ?_
  rintro e w2 ⟨rfl, k2⟩
  have I2 := I1.keep k2
  clear I1 k2
  go_wp2_with fail
  refine (of_any p g [⟨0, 0⟩, ⟨0, 0⟩] 1 ⟨0, 0⟩ _ (by simp) (by first | exact I2.P | exact I2.P.alloc _) rfl).mono ?_
  rintro e w3 ⟨rfl, k3⟩
  have I3 := (I2.keep ((Keeps.refl (fun _ => False) w2).alloc (.cells #[.int .i64 0, .int .i64 0] 34))).keep k3
  have I4 := I3.keep ((Keeps.refl (fun _ => False) w3).alloc (.cells #[.int .i64 0, .int .i64 0] 34))
  clear I2 I3 k3
  go_wp2_with fail
  refine (count_any p g _ 0 _ (by simp) I4.P).mono ?_
  rintro e w5 ⟨rfl, k5⟩
  have I5 := I4.keep k5
  rw [show count [⟨0, 0⟩, ⟨0, 0⟩] 0 = 2 from rfl]
  clear I4 k5
  go_wp2_with fail
  refine (count_any p g _ 9 _ (by simp) I5.P).mono ?_
  rintro e w6 ⟨rfl, k6⟩
  have I6 := I5.keep k6
  rw [show count [⟨0, 0⟩, ⟨0, 0⟩] 9 = 0 from rfl]
  clear I5 k6
  go_wp2_with fail
  refine (all_any p g _ _ (by simp) I6.P).mono ?_
  rintro e w7 ⟨A, c, rfl, HH, _, k7⟩
  have I7 := I6.keep k7
  clear I6 k7
  go_wp2_with fail
  go_ret
  exact ⟨rfl, I7.B⟩
theorem own : ownKnob Try.prog.godebug = none := by kernel_rfl
set_option maxRecDepth 100000 in
theorem lifted (os : Os) (started : os.Started) (H : Type) (enc : TypeId × Value → H) :
    ReturnsInHanded {} Try.checked os 8 .any (Rows.fateKnownSpec.pre6 enc Try.prog Try.f8 Rows.fateKnownRow.domain false) (Rows.fateKnownSpec.post enc Try.prog Try.f8 false true false false) := by
  refine returnsInHanded_of_change (C := Try.checked) own started (by kernel_rfl) Try.func8
    (ChangeSpec.witness6 (enc := enc) (C := Try.checked) false ⟨#[], #[], []⟩ 8 (by kernel_rfl) (by kernel_rfl) (by kernel_rfl) (by kernel_rfl)) ?_
  intro W base args ds gs before hval0 hW hcnd _
  have hval : ∀ (j : Nat) t v, Try.f8.params[j]? = some t → args[j]? = some v → Value.okWide Try.prog W .any base t v := hval0
  have hW' := hW
  obtain ⟨p, q, hA0, hV, rfl, hfz, hnd⟩ := hW
  have hA : DataW.TrodAll enc Try.prog W 0 (fun _ => true) true Try.f8.params.toList args.toList ds p := hA0
  rw [Try.params8] at hA hval
  obtain ⟨hargs, rfl, rfl⟩ := trodAll_nil hA
  obtain rfl : args = #[] := by cases args; simp_all
  obtain ⟨rfl, rfl⟩ := trodVars_none hV
  clear hA0 hval0
  refine (walk  W ).mono fun e W' ⟨he, bel⟩ => ?_
  subst he
  exact ⟨_, rfl, _, _, _, [], _, [], hW', trodAll_mk1 (shut_bool Try.underlying4 _), trodAll_mk0, rfl, bel.frame _, fun h => by cases h⟩
theorem over : Rows.fateKnownRow.holds Try.pinned (OpenSpec.ofChange Rows.fateKnownSpec) :=
  OpenClaim.holds_of_wide 8 Try.f8 rfl rfl rfl rfl rfl rfl rfl ⟨rfl, rfl, rfl, rfl, rfl⟩ rfl rfl rfl rfl rfl (by kernel_rfl) Try.func8 (by kernel_rfl)
    (of_decide_eq_true (by kernel_rfl)) (by unfold Func.isWrapper; first | (rw [if_pos (by decide +kernel)]; kernel_rfl) | (rw [if_neg (by decide +kernel)]; exact ⟨rfl, rfl⟩))
    (fun os started H enc _ => lifted os started H enc)
/-- The statement. -/
theorem proved : Rows.FateKnownSaid := over
#print axioms proved
end FateKnown
end Go.Proofs.Ytpfhogbkbodfjaa
