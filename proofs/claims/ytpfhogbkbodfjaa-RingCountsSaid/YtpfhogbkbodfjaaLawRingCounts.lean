/- The law RingCounts returns true at every input and leaves its arguments alone. Conditions: none. -/
import Derived.Test.YtpfhogbkbodfjaaAwake7
import Derived.Test.YtpfhogbkbodfjaaArgs
namespace Go.Proofs.Ytpfhogbkbodfjaa
open Go.RowKit Go.ChangeShapes Go.WideShapes Go.ChangeAt Go.Deep
set_option linter.unusedVariables false
set_option linter.unusedSimpArgs false
namespace RingCounts
open Ring
set_option maxHeartbeats 2000000 in
theorem walk_in (s : Int) (A1 : Option Addr) (n1 c1 : Nat) (x1 : List Bool) (w : World)
    (r1 : Row (fun x : Bool => [Value.bool x]) 1 w A1 n1 x1) (h1 : 1 ≤ s) (h2 : s ≤ 64) (h3 : n1 ≤ 150) :
    Calls Try.prog 12 #[.int .i64 s, .slice A1 n1 c1] w fun e w' => e = .returned (.bool true) ∧ Below w.heap.size w w' := by
  go_enter Try.func12, Try.ntmps12
  go_wp2_with fail
  refine (awake_ok w).mono ?_
  rintro e wa ⟨rfl, ba⟩
  go_wp2_with fail
  refine (new_any s _ h1 h2).mono ?_
  rintro e w1 ⟨p, rfl, hp, P1, k1⟩
  have b1 := below_keeps ba k1 ba.size (fun _ h => h.elim)
  have z1 := k1.size
  have z0 := ba.size
  clear k1 ba
  go_wp2_with fail
  go_loopw [7] (fun i wr => ∃ k b : Nat, k ≤ n1 ∧ i = .int .i64 k ∧ b < 2 ^ (min k s.toNat) ∧ At wr p s (min (k : Int) s) b ∧ Below w.heap.size w wr) (fun i _ => n1 - (intOf i).toNat)
  case atStart => exact ⟨0, 0, by omega, rfl, by simp, by rw [show min ((0 : Nat) : Int) s = 0 from by omega]; exact P1, b1⟩
  case round =>
    obtain ⟨k, b, hk, rfl, hbl, HP, HB⟩ := hrel
    by_cases hlt : k < n1
    · obtain ⟨bb, off, y, rfl, hy, hbl0, hc⟩ := r1.at1 HB hlt
      have hmin0 : 0 ≤ min (k : Int) s := by omega
      have hmin1 : min (k : Int) s ≤ s := by omega
      have hsm := Lib.hid (addB_small s b _ y hbl)
      clear hbl
      go_wp2_with fail
      refine (add_any p s _ _ y _ h1 h2 hmin0 hmin1 HP).mono ?_
      rintro e w3 ⟨rfl, HP3, k3⟩
      have HB3 := below_keeps HB k3 HB.size (fun i hi => by omega)
      obtain ⟨B, hBe⟩ : ∃ B, B = addB s b y := ⟨_, rfl⟩
      rw [← hBe] at HP3 hsm
      clear hBe hc
      obtain ⟨N, hNe⟩ : ∃ N : Nat, (N : Int) = min (min (k : Int) s + 1) s ∧ N = min (min k s.toNat + 1) s.toNat := ⟨min (min k s.toNat + 1) s.toNat, by omega, rfl⟩
      rw [← hNe.1] at HP3
      rw [← hNe.2] at hsm
      have hN64 : N ≤ 64 := by omega
      have hNs : (N : Int) ≤ s := by omega
      have hNk := Lib.hid (show N = min (k + 1) s.toNat by omega)
      have hB64 : B < 2 ^ 64 := Nat.lt_of_lt_of_le hsm.out (Nat.pow_le_pow_right (by omega) hN64)
      have HB64 := Lib.hid hB64
      clear hNe hB64 HP HB
      obtain ⟨wo, rfl⟩ : ∃ wo : World, wo = w3 := ⟨_, rfl⟩
      go_wp2_with fail
      go_loop [8, 9] (fun m q => ∃ j : Nat, j ≤ 64 ∧ q = .int .i64 j ∧ m = .int .i64 ((Ones.pop j B : Nat) : Int)) (fun _ q => 64 - (intOf q).toNat)
      case atStart => exact ⟨0, by omega, rfl, by rw [Ones.pop_null]; rfl⟩
      case round =>
        obtain ⟨j, hj, rfl, rfl⟩ := hrel
        have hpl := Ones.pop_le j B
        by_cases hlt2 : j < 64
        · obtain ⟨t, ht⟩ : ∃ t, B.testBit j = t := ⟨_, rfl⟩
          have hbit := bit_eq B j HB64.out
          rw [ht] at hbit
          have hpb := Lib.hid (pop_bit B j)
          by_cases hjn : j < N
          · have HT := Lib.hid ht
            clear ht
            go_wp2_with fail
            refine (at_in p s N B j t _ (by omega) (by omega) HB64.out HT.out HP3).mono ?_
            rintro e w5 ⟨rfl, rfl⟩
            go_wp2_with fail
            refine (bits_any p s _ B _ HP3).mono ?_
            rintro e w5 ⟨rfl, rfl⟩
            go_wp2_with fail
            refine (len_any p s _ B _ HP3).mono ?_
            rintro e w5 ⟨rfl, rfl⟩
            go_wp2_with fail
            all_goals
              go_round
              case rel => exact ⟨j + 1, by omega, by go_num, by rw [hpb.out, HT.out, show t = _ from ‹_›]; go_num⟩
              case measure => simp [intOf]; omega
          · obtain rfl : t = false := by rw [← ht]; exact no_bit hsm.out (by omega)
            have HT := Lib.hid ht
            clear ht
            go_wp2_with fail
            refine (at_out p s N B j _ (by omega) HP3).mono ?_
            rintro e w5 ⟨rfl, rfl⟩
            go_wp2_with fail
            refine (bits_any p s _ B _ HP3).mono ?_
            rintro e w5 ⟨rfl, rfl⟩
            go_wp2_with fail
            refine (len_any p s _ B _ HP3).mono ?_
            rintro e w5 ⟨rfl, rfl⟩
            go_wp2_with fail
            go_round
            case rel => exact ⟨j + 1, by omega, by go_num, by rw [hpb.out, HT.out]; go_num⟩
            case measure => simp [intOf]; omega
        · obtain rfl : j = 64 := by omega
          go_wp2_with fail
          refine (yes_any p s _ B _ HB64.out HP3).mono ?_
          rintro e w5 ⟨rfl, rfl⟩
          go_wp2_with fail
          refine (len_any p s _ B _ HP3).mono ?_
          rintro e w5 ⟨rfl, rfl⟩
          go_wp2_with fail
          go_roundw
          case rel => exact ⟨k + 1, B, by omega, by go_num, by rw [← hNk.out]; exact hsm.out, by rw [show min ((k + 1 : Nat) : Int) s = (N : Int) from by have := hNk.out; omega]; exact HP3, HB3⟩
          case measure => simp [intOf]; omega
    · go_wp2_with fail
      go_ret
      exact ⟨rfl, HB⟩
set_option maxHeartbeats 1000000 in
theorem walk_out (s : Int) (A1 : Option Addr) (n1 c1 : Nat) (w : World) (hm1 : n1 ≤ 9223372036854775807)
    (h : ¬ (1 ≤ s ∧ s ≤ 64 ∧ n1 ≤ 150)) :
    Calls Try.prog 12 #[.int .i64 s, .slice A1 n1 c1] w fun e w' => e = .returned (.bool true) ∧ Below w.heap.size w w' := by
  go_enter Try.func12, Try.ntmps12
  go_wp2_with fail
  refine (awake_ok w).mono ?_
  rintro e wa ⟨rfl, ba⟩
  go_wp2_with fail
  all_goals (go_ret; exact ⟨rfl, ba⟩)
theorem walk (s : Int) (A1 : Option Addr) (n1 c1 : Nat) (x1 : List Bool) (w : World) (ws : (Lit.int .i64 s).wf = true)
    (r1 : Row (fun x : Bool => [Value.bool x]) 1 w A1 n1 x1) :
    Calls Try.prog 12 #[.int .i64 s, .slice A1 n1 c1] w fun e w' => e = .returned (.bool true) ∧ Below w.heap.size w w' := by
  by_cases h : 1 ≤ s ∧ s ≤ 64 ∧ n1 ≤ 150
  · exact walk_in s A1 n1 c1 x1 w r1 h.1 h.2.1 h.2.2
  · have m1 := r1.2.1
    unfold maxLen at m1
    exact walk_out s A1 n1 c1 w m1 h
theorem own : ownKnob Try.prog.godebug = none := by kernel_rfl
theorem laidOut : laidOutB Try.prog = true := by kernel_rfl
set_option maxRecDepth 100000 in
theorem lifted (os : Os) (started : os.Started) (H : Type) (enc : TypeId × Value → H) :
    ReturnsInHanded {} Try.checked os 12 .any (Rows.ringCountsSpec.pre6 enc Try.prog Try.f12 Rows.ringCountsRow.domain false) (Rows.ringCountsSpec.post enc Try.prog Try.f12 false true false false) := by
  refine returnsInHanded_of_change (C := Try.checked) own started (by kernel_rfl) Try.func12
    (ChangeSpec.witness6 (enc := enc) (C := Try.checked) false ⟨#[], #[.int .i64 0, .slice none 0 0], []⟩ 8 (by kernel_rfl) (by kernel_rfl) (by kernel_rfl) (by kernel_rfl)) ?_
  intro W base args ds gs before hval0 hW hcnd _
  have hval : ∀ (j : Nat) t v, Try.f12.params[j]? = some t → args[j]? = some v → Value.okWide Try.prog W .any base t v := hval0
  have hW' := hW
  obtain ⟨p, q, hA0, hV, rfl, hfz, hnd⟩ := hW
  have hA : DataW.TrodAll enc Try.prog W 0 (fun _ => true) true Try.f12.params.toList args.toList ds p := hA0
  rw [Try.params12] at hA hval
  obtain ⟨v0, vs0, d0, ds0, p0, q0, hargs, rfl, rfl, h0, r0⟩ := trodAll_cons hA
  obtain ⟨v1, vs1, d1, ds1, p1, q1, rfl, rfl, rfl, h1, r1⟩ := trodAll_cons r0
  obtain ⟨rfl, rfl, rfl⟩ := trodAll_nil r1
  obtain rfl : args = #[v0, v1] := by cases args; simp_all
  obtain ⟨rfl, rfl⟩ := trodVars_none hV
  obtain ⟨a0, rfl, rfl, rfl, w0⟩ := open_int Try.underlying3 (hval 0 3 v0 rfl rfl) h0
  obtain ⟨A1, n1, c1, rfl⟩ := okWide_slice Try.underlying49 (hval 1 49 v1 rfl rfl)
  have k1 := h1
  have lt1 : ∀ x ∈ p1, x.block < W.heap.size := by obtain ⟨m, hm⟩ := k1; exact DataW.trod_lt m _ _ _ hm
  obtain ⟨x1, w1⟩ : ∃ xs, Row (fun x : Bool => [Value.bool x]) 1 W A1 n1 xs := by
    obtain ⟨fuel, hf⟩ := h1
    exact open_row _ 1 (by omega) Try.underlying49 (by kernel_rfl) (el_bool Try.underlying4) (by simpa [Value.cells] using hf)
  clear hA0 hval0
  refine (walk a0 A1 n1 c1 x1 W w0 w1).mono fun e W' ⟨he, bel⟩ => ?_
  subst he
  exact ⟨_, rfl, _, _, _, [], _, [], hW', trodAll_mk1 (shut_bool Try.underlying4 _), (trodAll_cons_mk (shut_int Try.underlying3 w0) (trodAll_cons_mk (Below.trod laidOut (by kernel_rfl) (of_decide_eq_true (by kernel_rfl)) k1 bel lt1) trodAll_mk0)), rfl, bel.frame _, fun h => by cases h⟩
theorem over : Rows.ringCountsRow.holds Try.pinned (OpenSpec.ofChange Rows.ringCountsSpec) :=
  OpenClaim.holds_of_wide 12 Try.f12 rfl rfl rfl rfl rfl rfl rfl ⟨rfl, rfl, rfl, rfl, rfl⟩ rfl rfl rfl rfl rfl (by kernel_rfl) Try.func12 (by kernel_rfl)
    (of_decide_eq_true (by kernel_rfl)) (by unfold Func.isWrapper; first | (rw [if_pos (by decide +kernel)]; kernel_rfl) | (rw [if_neg (by decide +kernel)]; exact ⟨rfl, rfl⟩))
    (fun os started H enc _ => lifted os started H enc)
/-- The statement. -/
theorem proved : Rows.RingCountsSaid := over
#print axioms proved
end RingCounts
end Go.Proofs.Ytpfhogbkbodfjaa
