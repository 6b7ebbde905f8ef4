/- The law CleanKnown returns true. Conditions: none. -/
import Derived.Test.YtpfhogbkbodfjabClean
import Derived.Test.YtpfhogbkbodfjabArgs
namespace Go.Proofs.Ytpfhogbkbodfjab
open Go.RowKit Go.ChangeShapes Go.WideShapes Go.ChangeAt Go.Deep
set_option linter.unusedVariables false
set_option linter.unusedSimpArgs false
namespace CleanKnown
open Clean
set_option maxRecDepth 100000 in
set_option maxHeartbeats 4000000 in
theorem walk (w : World) : Calls Try.prog 4 #[] w fun e w' => e = .returned (.bool true) ∧ Below w.heap.size w w' := by
  go_enter Try.func4, Try.ntmps4
  go_wp2_with fail
  refine (awake_ok w).mono ?_
  rintro e wa ⟨rfl, ba⟩
  go_wp2_with fail
  refine (new_no 0 1 1 _ (by unfold good; omega)).mono ?_
  rintro e wn1 ⟨rfl, rfl⟩
  go_wp2_with fail
  refine (new_no 1 1 101 _ (by unfold good; omega)).mono ?_
  rintro e wn2 ⟨rfl, rfl⟩
  go_wp2_with fail
  refine (new_any 5 2 3 _ (by unfold good; omega)).mono ?_
  rintro e wn3 ⟨px, rfl, g3, HN3, kn3⟩
  have b_px : w.heap.size ≤ px := Nat.le_trans ba.size g3
  have B3 := below_keeps ba kn3 ba.size (fun i hi => hi.elim)
  have Z3 := Nat.le_trans ba.size kn3.size
  clear kn3 g3  
  go_wp2_with fail
  refine (charge_any px _ _ (ok_new (by unfold good; omega)) HN3).mono ?_
  rintro e wn4 ⟨rfl, kn4⟩
  have Hpx4 := Blk.kept HN3 kn4 (fun h => h)
  have B4 := below_keeps B3 kn4 Z3 (fun i hi => hi.elim)
  have Z4 := Nat.le_trans Z3 kn4.size
  clear kn4 HN3 B3 Z3
  go_wp2_with fail
  refine (run_any px _ _ (by dsimp only; omega) (by dsimp only; omega) Hpx4).mono ?_
  rintro e wn5 ⟨rfl, HT5, kn5⟩
  have HU5 : At wn5 px ⟨5, 2, 3, 1, 0, 0⟩ := HT5
  have B5 := below_keeps B4 kn5 Z4 (fun i hi => by have := b_px; omega)
  have Z5 := Nat.le_trans Z4 kn5.size
  clear kn5 HT5 Hpx4 B4 Z4
  go_wp2_with fail
  refine (abort_any px _ _ HU5).mono ?_
  rintro e wn6 ⟨rfl, HT6, kn6⟩
  have HU6 : At wn6 px ⟨5, 2, 3, 1, 0, 1⟩ := HT6
  have B6 := below_keeps B5 kn6 Z5 (fun i hi => by have := b_px; omega)
  have Z6 := Nat.le_trans Z5 kn6.size
  clear kn6 HT6 HU5 B5 Z5
  go_wp2_with fail
  refine (abort_any px _ _ HU6).mono ?_
  rintro e wn7 ⟨rfl, HT7, kn7⟩
  have HU7 : At wn7 px ⟨5, 2, 3, 1, 0, 1⟩ := HT7
  have B7 := below_keeps B6 kn7 Z6 (fun i hi => by have := b_px; omega)
  have Z7 := Nat.le_trans Z6 kn7.size
  clear kn7 HT7 HU6 B6 Z6
  go_wp2_with fail
  refine (used_any px _ _ HU7).mono ?_
  rintro e wn8 ⟨rfl, kn8⟩
  have Hpx8 := Blk.kept HU7 kn8 (fun h => h)
  have B8 := below_keeps B7 kn8 Z7 (fun i hi => hi.elim)
  have Z8 := Nat.le_trans Z7 kn8.size
  clear kn8 HU7 B7 Z7
  go_wp2_with fail
  refine (left_any px _ _ (by constructor <;> dsimp only <;> omega) Hpx8).mono ?_
  rintro e wn9 ⟨rfl, kn9⟩
  have Hpx9 := Blk.kept Hpx8 kn9 (fun h => h)
  have B9 := below_keeps B8 kn9 Z8 (fun i hi => hi.elim)
  have Z9 := Nat.le_trans Z8 kn9.size
  clear kn9 Hpx8 B8 Z8
  go_wp2_with fail
  refine (new_any 5 5 0 _ (by unfold good; omega)).mono ?_
  rintro e wn10 ⟨py, rfl, g10, HN10, kn10⟩
  have ne_px_py : px ≠ py := by have := Hpx9.lt; omega
  have b_py : w.heap.size ≤ py := Nat.le_trans Z9 g10
  have Hpx10 := Blk.kept Hpx9 kn10 (fun h => h)
  have B10 := below_keeps B9 kn10 Z9 (fun i hi => hi.elim)
  have Z10 := Nat.le_trans Z9 kn10.size
  clear kn10 g10 Hpx9 B9 Z9
  go_wp2_with fail
  go_loopw [15] (fun i wr => ∃ k : Nat, k ≤ 5 ∧ i = .int .i64 k ∧ At wr px ⟨5, 2, 3, 1, 0, 1⟩ ∧ At wr py ⟨5, 5, 0, (k : Int), 0, if k = 5 then 2 else 0⟩ ∧ Below w.heap.size w wr ∧ w.heap.size ≤ wr.heap.size) (fun i _ => 5 - (intOf i).toNat)
  case atStart => exact ⟨0, by omega, rfl, Hpx10, HN10, B10, Z10⟩
  case round =>
    obtain ⟨k, hk, rfl, HX, HY, HB, hz⟩ := hrel
    by_cases hlt : k < 5
    · rw [if_neg (by omega)] at HY
      have hst : (L.run ⟨5, 5, 0, (k : Int), 0, 0⟩).1 = true ∧ (L.run ⟨5, 5, 0, (k : Int), 0, 0⟩).2 = ⟨5, 5, 0, ((k + 1 : Nat) : Int), 0, if k + 1 = 5 then 2 else 0⟩ := by
        unfold L.run
        by_cases h4 : k = 4
        · subst h4; exact ⟨rfl, rfl⟩
        · simp only [if_true]
          rw [if_neg (by omega), if_neg (by omega), if_neg (by omega)]
          exact ⟨trivial, rfl⟩
      have HST := Lib.hid hst
      clear hst
      go_wp2_with fail
      refine (run_any py _ _ (by dsimp only; omega) (by dsimp only; omega) HY).mono ?_
      rintro e wn1 ⟨rfl, HT1, kn1⟩
      have Hpx1 := Blk.kept HX kn1 (fun h => absurd h (by omega))
      have B1 := below_keeps HB kn1 hz (fun i hi => by have := b_py; omega)
      have Z1 := Nat.le_trans hz kn1.size
      clear kn1  HX HY 
      rw [HST.out.1]
      rw [HST.out.2] at HT1
      go_wp2_with fail
      go_roundw
      case rel => exact ⟨k + 1, by omega, by go_num, Hpx1, HT1, B1, Z1⟩
      case measure => simp [intOf]; omega
    · obtain rfl : k = 5 := by omega
      have HY0 : At wr py ⟨5, 5, 0, 5, 0, 2⟩ := HY
      clear HY
      go_wp2_with fail
      refine (new_any 5 5 0 _ (by unfold good; omega)).mono ?_
      rintro e wn1 ⟨pz, rfl, g1, HN1, kn1⟩
      have ne_px_pz : px ≠ pz := by have := HX.lt; omega
      have ne_py_pz : py ≠ pz := by have := HY0.lt; omega
      have b_pz : w.heap.size ≤ pz := Nat.le_trans hz g1
      have Hpx1 := Blk.kept HX kn1 (fun h => h)
      have Hpy1 := Blk.kept HY0 kn1 (fun h => h)
      have B1 := below_keeps HB kn1 hz (fun i hi => hi.elim)
      have Z1 := Nat.le_trans hz kn1.size
      clear kn1 g1 HX HY0 
      go_wp2_with fail
      refine (abort_any pz _ _ HN1).mono ?_
      rintro e wn2 ⟨rfl, HT2, kn2⟩
      have HU2 : At wn2 pz ⟨5, 5, 0, 0, 0, 3⟩ := HT2
      have Hpx2 := Blk.kept Hpx1 kn2 (fun h => absurd h (by omega))
      have Hpy2 := Blk.kept Hpy1 kn2 (fun h => absurd h (by omega))
      have B2 := below_keeps B1 kn2 Z1 (fun i hi => by have := b_pz; omega)
      have Z2 := Nat.le_trans Z1 kn2.size
      clear kn2 HT2 Hpx1 Hpy1 HN1 B1 Z1
      go_wp2_with fail
      refine (charge_any px _ _ (by constructor <;> dsimp only <;> omega) Hpx2).mono ?_
      rintro e wn3 ⟨rfl, kn3⟩
      have Hpx3 := Blk.kept Hpx2 kn3 (fun h => h)
      have Hpy3 := Blk.kept Hpy2 kn3 (fun h => h)
      have Hpz3 := Blk.kept HU2 kn3 (fun h => h)
      have B3 := below_keeps B2 kn3 Z2 (fun i hi => hi.elim)
      have Z3 := Nat.le_trans Z2 kn3.size
      clear kn3 Hpx2 Hpy2 HU2 B2 Z2
      go_wp2_with fail
      refine (stage_any py _ _ Hpy3).mono ?_
      rintro e wn4 ⟨rfl, rfl⟩
      go_wp2_with fail
      refine (charge_any py _ _ (by constructor <;> dsimp only <;> omega) Hpy3).mono ?_
      rintro e wn5 ⟨rfl, kn5⟩
      have Hpx5 := Blk.kept Hpx3 kn5 (fun h => h)
      have Hpy5 := Blk.kept Hpy3 kn5 (fun h => h)
      have Hpz5 := Blk.kept Hpz3 kn5 (fun h => h)
      have B5 := below_keeps B3 kn5 Z3 (fun i hi => hi.elim)
      have Z5 := Nat.le_trans Z3 kn5.size
      clear kn5 Hpx3 Hpy3 Hpz3 B3 Z3
      go_wp2_with fail
      refine (stage_any pz _ _ Hpz5).mono ?_
      rintro e wn6 ⟨rfl, rfl⟩
      go_wp2_with fail
      refine (abort_any py _ _ Hpy5).mono ?_
      rintro e wn7 ⟨rfl, HT7, kn7⟩
      have HU7 : At wn7 py ⟨5, 5, 0, 5, 0, 2⟩ := HT7
      have Hpx7 := Blk.kept Hpx5 kn7 (fun h => absurd h (by omega))
      have Hpz7 := Blk.kept Hpz5 kn7 (fun h => absurd h (by omega))
      have B7 := below_keeps B5 kn7 Z5 (fun i hi => by have := b_py; omega)
      have Z7 := Nat.le_trans Z5 kn7.size
      clear kn7 HT7 Hpx5 Hpy5 Hpz5 B5 Z5
      go_wp2_with fail
      go_ret
      exact ⟨rfl, B7⟩
theorem own : ownKnob Try.prog.godebug = none := by kernel_rfl
set_option maxRecDepth 100000 in
theorem lifted (os : Os) (started : os.Started) (H : Type) (enc : TypeId × Value → H) :
    ReturnsInHanded {} Try.checked os 4 .any (Rows.cleanKnownSpec.pre6 enc Try.prog Try.f4 Rows.cleanKnownRow.domain false) (Rows.cleanKnownSpec.post enc Try.prog Try.f4 false true false false) := by
  refine returnsInHanded_of_change (C := Try.checked) own started (by kernel_rfl) Try.func4
    (ChangeSpec.witness6 (enc := enc) (C := Try.checked) false ⟨#[], #[], []⟩ 8 (by kernel_rfl) (by kernel_rfl) (by kernel_rfl) (by kernel_rfl)) ?_
  intro W base args ds gs before hval0 hW hcnd _
  have hval : ∀ (j : Nat) t v, Try.f4.params[j]? = some t → args[j]? = some v → Value.okWide Try.prog W .any base t v := hval0
  have hW' := hW
  obtain ⟨p, q, hA0, hV, rfl, hfz, hnd⟩ := hW
  have hA : DataW.TrodAll enc Try.prog W 0 (fun _ => true) true Try.f4.params.toList args.toList ds p := hA0
  rw [Try.params4] at hA hval
  obtain ⟨hargs, rfl, rfl⟩ := trodAll_nil hA
  obtain rfl : args = #[] := by cases args; simp_all
  obtain ⟨rfl, rfl⟩ := trodVars_none hV
  clear hA0 hval0
  refine (walk  W ).mono fun e W' ⟨he, bel⟩ => ?_
  subst he
  exact ⟨_, rfl, _, _, _, [], _, [], hW', trodAll_mk1 (shut_bool Try.underlying4 _), trodAll_mk0, rfl, bel.frame _, fun h => by cases h⟩
theorem over : Rows.cleanKnownRow.holds Try.pinned (OpenSpec.ofChange Rows.cleanKnownSpec) :=
  OpenClaim.holds_of_wide 4 Try.f4 rfl rfl rfl rfl rfl rfl rfl ⟨rfl, rfl, rfl, rfl, rfl⟩ rfl rfl rfl rfl rfl (by kernel_rfl) Try.func4 (by kernel_rfl)
    (of_decide_eq_true (by kernel_rfl)) (by unfold Func.isWrapper; first | (rw [if_pos (by decide +kernel)]; kernel_rfl) | (rw [if_neg (by decide +kernel)]; exact ⟨rfl, rfl⟩))
    (fun os started H enc _ => lifted os started H enc)
/-- The statement. -/
theorem proved : Rows.CleanKnownSaid := over
#print axioms proved
end CleanKnown
end Go.Proofs.Ytpfhogbkbodfjab
