/- The law RingKnown returns true. Conditions: none. -/
import Derived.Test.YtpfhogbkbodfjaaAwake7
import Derived.Test.YtpfhogbkbodfjaaArgs
namespace Go.Proofs.Ytpfhogbkbodfjaa
open Go.RowKit Go.ChangeShapes Go.WideShapes Go.ChangeAt Go.Deep
set_option linter.unusedVariables false
set_option linter.unusedSimpArgs false
namespace RingKnown
open Ring
def full (k : Nat) : Nat := addL 64 0 (List.replicate k true)
theorem full_step (k : Nat) : addB 64 (full k) true = full (k + 1) := by
  unfold full
  rw [List.replicate_succ', addL_snoc]
theorem full_64 : full 64 = 18446744073709551615 := by decide +kernel
theorem full_no : addB 64 18446744073709551615 false = 18446744073709551614 := by decide +kernel
attribute [irreducible] full
theorem at_inI (p : Nat) (s n : Int) (b : Nat) (k : Int) (t : Bool) (w : World) (h0 : 0 ≤ k) (hk : k < n) (hn : n ≤ 64) (hlt : b < 2 ^ 64) (ht : b.testBit k.toNat = t) (hb : At w p s n b) :
    Calls Try.prog 43 #[.pointer (some ⟨p, 0, none⟩), .int .i64 k] w fun e w' => e = .returned (.tuple #[.bool t, .bool true]) ∧ w = w' := by
  obtain ⟨m, rfl⟩ := Int.eq_ofNat_of_zero_le h0
  exact at_in p s n b m t w hk hn hlt ht hb
set_option maxHeartbeats 2000000 in
theorem walk (w : World) : Calls Try.prog 10 #[] w fun e w' => e = .returned (.bool true) ∧ Below w.heap.size w w' := by
  go_enter Try.func10, Try.ntmps10
  go_wp2_with fail
  refine (awake_ok w).mono ?_
  rintro e wa ⟨rfl, ba⟩
  go_wp2_with fail
  refine (new_no 0 _ (by omega)).mono ?_
  rintro e wb ⟨rfl, rfl⟩
  go_wp2_with fail
  refine (new_no 65 _ (by omega)).mono ?_
  rintro e wc ⟨rfl, rfl⟩
  go_wp2_with fail
  refine (new_any 64 _ (by omega) (by omega)).mono ?_
  rintro e w1 ⟨p, rfl, hp, P1, k1⟩
  have b1 := below_keeps ba k1 ba.size (fun _ h => h.elim)
  have z1 := k1.size
  have z0 := ba.size
  clear k1 ba
  go_wp2_with fail
  go_loopw [7] (fun i wr => ∃ k : Nat, k ≤ 64 ∧ i = .int .i64 k ∧ At wr p 64 (k : Int) (full k) ∧ Below w.heap.size w wr) (fun i _ => 64 - (intOf i).toNat)
  case atStart => exact ⟨0, by omega, rfl, by have e : full 0 = 0 := by unfold full; rfl
                                              rw [e]; exact P1, b1⟩
  case round =>
    obtain ⟨k, hk, rfl, HP, HB⟩ := hrel
    by_cases hlt : k < 64
    · have hk0 : (0 : Int) ≤ k := by omega
      have hk1 : (k : Int) ≤ 64 := by omega
      go_wp2_with fail
      refine (add_any p 64 _ _ true _ (by omega) (by omega) hk0 hk1 HP).mono ?_
      rintro e w3 ⟨rfl, HP3, k3⟩
      have HB3 := below_keeps HB k3 HB.size (fun i hi => by omega)
      rw [show min ((k : Int) + 1) 64 = ((k + 1 : Nat) : Int) from by omega, full_step] at HP3
      clear k3
      go_wp2_with fail
      go_roundw
      case rel => exact ⟨k + 1, by omega, by go_num, HP3, HB3⟩
      case measure => simp [intOf]; omega
    · obtain rfl : k = 64 := by omega
      rw [full_64] at HP
      have HP0 : At wr p 64 64 18446744073709551615 := HP
      clear HP
      go_wp2_with fail
      refine (bits_any p 64 64 _ _ HP0).mono ?_
      rintro e w5 ⟨rfl, rfl⟩
      go_wp2_with fail
      refine (add_any p 64 64 _ false _ (by omega) (by omega) (by omega) (by omega) HP0).mono ?_
      rintro e w3 ⟨rfl, HP3, k3⟩
      have HB3 := below_keeps HB k3 HB.size (fun i hi => by omega)
      rw [full_no] at HP3
      have HP4 : At w3 p 64 64 18446744073709551614 := HP3
      clear HP3 k3 HB HP0
      go_wp2_with fail
      refine (at_inI p 64 64 _ 0 false _ (by omega) (by omega) (by omega) (by omega) (by decide) HP4).mono ?_
      rintro e w5 ⟨rfl, rfl⟩
      go_wp2_with fail
      refine (at_out p 64 64 _ 64 _ (by omega) HP4).mono ?_
      rintro e w5 ⟨rfl, rfl⟩
      go_wp2_with fail
      refine (at_out p 64 64 _ (-1) _ (by omega) HP4).mono ?_
      rintro e w5 ⟨rfl, rfl⟩
      go_wp2_with fail
      refine (bits_any p 64 64 _ _ HP4).mono ?_
      rintro e w5 ⟨rfl, rfl⟩
      go_wp2_with fail
      refine (yes_any p 64 64 _ _ (by omega) HP4).mono ?_
      rintro e w5 ⟨rfl, rfl⟩
      rw [Ones.pop_most]
      go_wp2_with fail
      refine (len_any p 64 64 _ _ HP4).mono ?_
      rintro e w5 ⟨rfl, rfl⟩
      go_wp2_with fail
      go_ret
      exact ⟨rfl, HB3⟩
theorem own : ownKnob Try.prog.godebug = none := by kernel_rfl
set_option maxRecDepth 100000 in
theorem lifted (os : Os) (started : os.Started) (H : Type) (enc : TypeId × Value → H) :
    ReturnsInHanded {} Try.checked os 10 .any (Rows.ringKnownSpec.pre6 enc Try.prog Try.f10 Rows.ringKnownRow.domain false) (Rows.ringKnownSpec.post enc Try.prog Try.f10 false true false false) := by
  refine returnsInHanded_of_change (C := Try.checked) own started (by kernel_rfl) Try.func10
    (ChangeSpec.witness6 (enc := enc) (C := Try.checked) false ⟨#[], #[], []⟩ 8 (by kernel_rfl) (by kernel_rfl) (by kernel_rfl) (by kernel_rfl)) ?_
  intro W base args ds gs before hval0 hW hcnd _
  have hval : ∀ (j : Nat) t v, Try.f10.params[j]? = some t → args[j]? = some v → Value.okWide Try.prog W .any base t v := hval0
  have hW' := hW
  obtain ⟨p, q, hA0, hV, rfl, hfz, hnd⟩ := hW
  have hA : DataW.TrodAll enc Try.prog W 0 (fun _ => true) true Try.f10.params.toList args.toList ds p := hA0
  rw [Try.params10] at hA hval
  obtain ⟨hargs, rfl, rfl⟩ := trodAll_nil hA
  obtain rfl : args = #[] := by cases args; simp_all
  obtain ⟨rfl, rfl⟩ := trodVars_none hV
  clear hA0 hval0
  refine (walk  W ).mono fun e W' ⟨he, bel⟩ => ?_
  subst he
  exact ⟨_, rfl, _, _, _, [], _, [], hW', trodAll_mk1 (shut_bool Try.underlying4 _), trodAll_mk0, rfl, bel.frame _, fun h => by cases h⟩
theorem over : Rows.ringKnownRow.holds Try.pinned (OpenSpec.ofChange Rows.ringKnownSpec) :=
  OpenClaim.holds_of_wide 10 Try.f10 rfl rfl rfl rfl rfl rfl rfl ⟨rfl, rfl, rfl, rfl, rfl⟩ rfl rfl rfl rfl rfl (by kernel_rfl) Try.func10 (by kernel_rfl)
    (of_decide_eq_true (by kernel_rfl)) (by unfold Func.isWrapper; first | (rw [if_pos (by decide +kernel)]; kernel_rfl) | (rw [if_neg (by decide +kernel)]; exact ⟨rfl, rfl⟩))
    (fun os started H enc _ => lifted os started H enc)
/-- The statement. -/
theorem proved : Rows.RingKnownSaid := over
#print axioms proved
end RingKnown
end Go.Proofs.Ytpfhogbkbodfjaa
