/- The law LedgerKnown returns true. Conditions: none. -/
import Derived.Test.YtpfhogbkbodfjabRefLed2
import Derived.Test.YtpfhogbkbodfjabArgs
namespace Go.Proofs.Ytpfhogbkbodfjab
open Go.RowKit Go.ChangeShapes Go.WideShapes Go.ChangeAt Go.Deep
set_option linter.unusedVariables false
set_option linter.unusedSimpArgs false
namespace LedgerKnown
open Led
theorem top_none : Top [] ⟨#[]⟩ 0 := .inl ⟨rfl, rfl, fun n _ => Int.le_refl _⟩
theorem top_all : Top [⟨5, ⟨#[98]⟩, 3⟩, ⟨5, ⟨#[97]⟩, 3⟩, ⟨6, ⟨#[97]⟩, -9⟩, ⟨7, ⟨#[99]⟩, 4611686018427387898⟩] ⟨#[99]⟩ 4611686018427387898 := by
  refine .inr ⟨by decide, by decide, fun n _ => ?_⟩
  by_cases hc : n = ⟨#[99]⟩
  · subst hc
    exact .inr ⟨by decide, lt_irr _⟩
  · left
    have h1 : pos 3 = 3 := rfl
    have h2 : pos (-9) = 0 := rfl
    have hc' : ¬ (⟨#[99]⟩ : ByteArray) = n := fun e => hc e.symm
    simp only [earnOf, sumBy, h1, h2, if_neg hc']
    split <;> split <;> omega
set_option maxRecDepth 100000 in
set_option maxHeartbeats 4000000 in
theorem walk (w : World) : Calls Try.prog 9 #[] w fun e w' => e = .returned (.bool true) ∧ Below w.heap.size w w' := by
  have hna : (⟨#[97]⟩ : ByteArray).size ≤ maxLen := by decide
  have hnb : (⟨#[98]⟩ : ByteArray).size ≤ maxLen := by decide
  have hnc : (⟨#[99]⟩ : ByteArray).size ≤ maxLen := by decide
  have hnd : (⟨#[100]⟩ : ByteArray).size ≤ maxLen := by decide
  have heq : ∀ W : World, (binOp .eql 85 (.agg #[.int .i64 6, .string ⟨#[97]⟩, .int .i64 (-9)]) (.agg #[.int .i64 6, .string ⟨#[97]⟩, .int .i64 (-9)])).run Try.prog W = .ok (.bool true) W := fun _ => by kernel_rfl
  go_enter Try.func9, Try.ntmps9
  go_wp2_with fail
  refine (awake_ok w).mono ?_
  rintro e wa ⟨rfl, ba⟩
  go_wp2_with fail
  refine (new_any wa).mono ?_
  rintro e w0 ⟨p, F0, rfl, bF, H0, k0⟩
  have hF0 : ∀ b, F0 b → w.heap.size ≤ b := fun b hb => Nat.le_trans ba.size (bF b hb)
  have B0 := below_keeps ba k0 ba.size (fun _ h => h.elim)
  have z0 := Nat.le_trans ba.size k0.size
  clear ba k0 bF
  go_wp2_with fail
  refine (best_any p F0 [] _ H0).mono ?_
  rintro e w1 ⟨s, m, rfl, T, k1⟩
  obtain ⟨rfl, rfl⟩ := Top.same T top_none
  have H1 := H0.stay k1
  have B1 := below_keeps B0 k1 z0 (fun _ h => h.elim)
  have z1 := Nat.le_trans z0 k1.size
  have hF1 := hF0
  clear H0 B0 z0 hF0 k1 T
  rw [show decide ((0 : Int) < 0) = false from by decide]
  go_wp2_with fail
  refine (earn_own p F0 _ (-1) ⟨#[97]⟩ 1 _ (by simp) H1 (by omega) hna 1 [] rfl B1 z1 hF1).mono ?_
  rintro e w2 ⟨rfl, F2, H2, hF2, B2, z2⟩
  clear H1 B1 z1 hF1
  go_wp2_with fail
  refine (earn_own p F2 _ 1 ⟨#[97]⟩ (-1) _ (by simp) H2 (by omega) hna 1 [] rfl B2 z2 hF2).mono ?_
  rintro e w3 ⟨rfl, F3, H3, hF3, B3, z3⟩
  clear H2 B2 z2 hF2
  go_wp2_with fail
  refine (earn_own p F3 _ 5 ⟨#[98]⟩ 3 _ (by simp) H3 (by omega) hnb 0 [⟨5, ⟨#[98]⟩, 3⟩] rfl B3 z3 hF3).mono ?_
  rintro e w4 ⟨rfl, F4, H4, hF4, B4, z4⟩
  clear H3 B3 z3 hF3
  go_wp2_with fail
  refine (earn_own p F4 _ 5 ⟨#[97]⟩ 3 _ (by simp) H4 (by omega) hna 0 [⟨5, ⟨#[98]⟩, 3⟩, ⟨5, ⟨#[97]⟩, 3⟩] rfl B4 z4 hF4).mono ?_
  rintro e w5 ⟨rfl, F5, H5, hF5, B5, z5⟩
  clear H4 B4 z4 hF4
  go_wp2_with fail
  refine (lose_own p F5 _ 4 ⟨#[97]⟩ 1 _ (by simp) H5 (by omega) hna 10 [⟨5, ⟨#[98]⟩, 3⟩, ⟨5, ⟨#[97]⟩, 3⟩] rfl B5 z5 hF5).mono ?_
  rintro e w6 ⟨rfl, F6, H6, hF6, B6, z6⟩
  clear H5 B5 z5 hF5
  go_wp2_with fail
  refine (lose_own p F6 _ 6 ⟨#[97]⟩ 9 _ (by simp) H6 (by omega) hna 0 [⟨5, ⟨#[98]⟩, 3⟩, ⟨5, ⟨#[97]⟩, 3⟩, ⟨6, ⟨#[97]⟩, -9⟩] rfl B6 z6 hF6).mono ?_
  rintro e w7 ⟨rfl, F7, H7, hF7, B7, z7⟩
  clear H6 B6 z6 hF6
  go_wp2_with fail
  refine (earn_own p F7 _ 7 ⟨#[99]⟩ 4611686018427387904 _ (by simp) H7 (by omega) hnc 8 [⟨5, ⟨#[98]⟩, 3⟩, ⟨5, ⟨#[97]⟩, 3⟩, ⟨6, ⟨#[97]⟩, -9⟩] rfl B7 z7 hF7).mono ?_
  rintro e w8 ⟨rfl, F8, H8, hF8, B8, z8⟩
  clear H7 B7 z7 hF7
  go_wp2_with fail
  refine (earn_own p F8 _ 7 ⟨#[99]⟩ 4611686018427387898 _ (by simp) H8 (by omega) hnc 0 [⟨5, ⟨#[98]⟩, 3⟩, ⟨5, ⟨#[97]⟩, 3⟩, ⟨6, ⟨#[97]⟩, -9⟩, ⟨7, ⟨#[99]⟩, 4611686018427387898⟩] rfl B8 z8 hF8).mono ?_
  rintro e w9 ⟨rfl, F9, H9, hF9, B9, z9⟩
  clear H8 B8 z8 hF8
  go_wp2_with fail
  refine (earn_own p F9 _ 8 ⟨#[100]⟩ 1 _ (by simp) H9 (by omega) hnd 8 [⟨5, ⟨#[98]⟩, 3⟩, ⟨5, ⟨#[97]⟩, 3⟩, ⟨6, ⟨#[97]⟩, -9⟩, ⟨7, ⟨#[99]⟩, 4611686018427387898⟩] rfl B9 z9 hF9).mono ?_
  rintro e w10 ⟨rfl, F10, H10, hF10, B10, z10⟩
  clear H9 B9 z9 hF9
  go_wp2_with fail
  refine (best_any p F10 _ _ H10).mono ?_
  rintro e w11 ⟨s, m, rfl, T, k10⟩
  have H11 := H10.stay k10
  have B11 := below_keeps B10 k10 z10 (fun _ h => h.elim)
  have z11 := Nat.le_trans z10 k10.size
  obtain ⟨rfl, rfl⟩ := Top.same T top_all
  clear H10 B10 z10 k10
  rw [show decide ((0 : Int) < 4611686018427387898) = true from by decide]
  go_wp2_with fail
  refine (by_any p F10 _ ⟨#[97]⟩ _ H11).mono ?_
  rintro e w12 ⟨rfl, k11⟩
  have H12 := H11.stay k11
  have B12 := below_keeps B11 k11 z11 (fun _ h => h.elim)
  have z12 := Nat.le_trans z11 k11.size
  clear H11 B11 z11 k11
  rw [show earnOf [⟨5, ⟨#[98]⟩, 3⟩, ⟨5, ⟨#[97]⟩, 3⟩, ⟨6, ⟨#[97]⟩, -9⟩, ⟨7, ⟨#[99]⟩, 4611686018427387898⟩] ⟨#[97]⟩ = 3 from by decide]
  rw [show lossOf [⟨5, ⟨#[98]⟩, 3⟩, ⟨5, ⟨#[97]⟩, 3⟩, ⟨6, ⟨#[97]⟩, -9⟩, ⟨7, ⟨#[99]⟩, 4611686018427387898⟩] ⟨#[97]⟩ = 9 from by decide]
  go_wp2_with fail
  refine (rows_any p F10 _ _ (by simp) H12).mono ?_
  rintro e w13 ⟨A1, c1, rfl, R, hb, k12⟩
  have H13 := H12.stay k12
  have B13 := below_keeps B12 k12 z12 (fun _ h => h.elim)
  have z13 := Nat.le_trans z12 k12.size
  clear H12 B12 z12 k12
  obtain ⟨g, off, rfl, hc⟩ := R.at_ (by simp)
  have d0 : w13.cell? ⟨g, off + 6, none⟩ = some (.int .i64 6) := hc 6 _ rfl
  have d1 : w13.cell? ⟨g, off + 7, none⟩ = some (.string ⟨#[97]⟩) := hc 7 _ rfl
  have d2 : w13.cell? ⟨g, off + 8, none⟩ = some (.int .i64 (-9)) := hc 8 _ rfl
  have e1 : w13.cell? ⟨g, off + 6 + 1, none⟩ = some (.string ⟨#[97]⟩) := d1
  have e2 : w13.cell? ⟨g, off + 6 + 2, none⟩ = some (.int .i64 (-9)) := d2
  clear hc R hb
  go_wp2_with fail
  refine (till_any p F10 _ 5 _ (by simp) H13).mono ?_
  rintro e w14 ⟨rfl, k13⟩
  have H14 := H13.stay k13
  have B14 := below_keeps B13 k13 z13 (fun _ h => h.elim)
  have z14 := Nat.le_trans z13 k13.size
  clear H13 B13 z13 k13
  rw [show till [⟨5, ⟨#[98]⟩, 3⟩, ⟨5, ⟨#[97]⟩, 3⟩, ⟨6, ⟨#[97]⟩, -9⟩, ⟨7, ⟨#[99]⟩, 4611686018427387898⟩] 5 = 6 from by decide]
  go_wp2_with fail
  refine (till_any p F10 _ 6 _ (by simp) H14).mono ?_
  rintro e w15 ⟨rfl, k14⟩
  have H15 := H14.stay k14
  have B15 := below_keeps B14 k14 z14 (fun _ h => h.elim)
  have z15 := Nat.le_trans z14 k14.size
  clear H14 B14 z14 k14
  rw [show till [⟨5, ⟨#[98]⟩, 3⟩, ⟨5, ⟨#[97]⟩, 3⟩, ⟨6, ⟨#[97]⟩, -9⟩, ⟨7, ⟨#[99]⟩, 4611686018427387898⟩] 6 = -3 from by decide]
  go_wp2_with fail
  go_ret
  exact ⟨rfl, B15⟩
theorem own : ownKnob Try.prog.godebug = none := by kernel_rfl
set_option maxRecDepth 100000 in
theorem lifted (os : Os) (started : os.Started) (H : Type) (enc : TypeId × Value → H) :
    ReturnsInHanded {} Try.checked os 9 .any (Rows.ledgerKnownSpec.pre6 enc Try.prog Try.f9 Rows.ledgerKnownRow.domain false) (Rows.ledgerKnownSpec.post enc Try.prog Try.f9 false true false false) := by
  refine returnsInHanded_of_change (C := Try.checked) own started (by kernel_rfl) Try.func9
    (ChangeSpec.witness6 (enc := enc) (C := Try.checked) false ⟨#[], #[], []⟩ 8 (by kernel_rfl) (by kernel_rfl) (by kernel_rfl) (by kernel_rfl)) ?_
  intro W base args ds gs before hval0 hW hcnd _
  have hval : ∀ (j : Nat) t v, Try.f9.params[j]? = some t → args[j]? = some v → Value.okWide Try.prog W .any base t v := hval0
  have hW' := hW
  obtain ⟨p, q, hA0, hV, rfl, hfz, hnd⟩ := hW
  have hA : DataW.TrodAll enc Try.prog W 0 (fun _ => true) true Try.f9.params.toList args.toList ds p := hA0
  rw [Try.params9] at hA hval
  obtain ⟨hargs, rfl, rfl⟩ := trodAll_nil hA
  obtain rfl : args = #[] := by cases args; simp_all
  obtain ⟨rfl, rfl⟩ := trodVars_none hV
  clear hA0 hval0
  refine (walk  W ).mono fun e W' ⟨he, bel⟩ => ?_
  subst he
  exact ⟨_, rfl, _, _, _, [], _, [], hW', trodAll_mk1 (shut_bool Try.underlying4 _), trodAll_mk0, rfl, bel.frame _, fun h => by cases h⟩
theorem over : Rows.ledgerKnownRow.holds Try.pinned (OpenSpec.ofChange Rows.ledgerKnownSpec) :=
  OpenClaim.holds_of_wide 9 Try.f9 rfl rfl rfl rfl rfl rfl rfl ⟨rfl, rfl, rfl, rfl, rfl⟩ rfl rfl rfl rfl rfl (by kernel_rfl) Try.func9 (by kernel_rfl)
    (of_decide_eq_true (by kernel_rfl)) (by unfold Func.isWrapper; first | (rw [if_pos (by decide +kernel)]; kernel_rfl) | (rw [if_neg (by decide +kernel)]; exact ⟨rfl, rfl⟩))
    (fun os started H enc _ => lifted os started H enc)
/-- The statement. -/
theorem proved : Rows.LedgerKnownSaid := over
#print axioms proved
end LedgerKnown
end Go.Proofs.Ytpfhogbkbodfjab
