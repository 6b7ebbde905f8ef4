/- The law RingLast returns true at every input and leaves its arguments alone. Conditions: none. -/
import Derived.Test.YtpfhogbkbodfjaaAwake7
import Derived.Test.YtpfhogbkbodfjaaArgs
namespace Go.Proofs.Ytpfhogbkbodfjaa
open Go.RowKit Go.ChangeShapes Go.WideShapes Go.ChangeAt Go.Deep
set_option linter.unusedVariables false
set_option linter.unusedSimpArgs false
namespace RingLast
open Ring
/-- The lowest i bits are those of the last i Adds. -/
theorem low_step (s : Int) (hs : 0 ≤ s) (bx bB : Nat) (y : Bool) (i : Nat) (h : bx % 2 ^ (min i s.toNat) = bB % 2 ^ (min i s.toNat)) :
    addB s bx y % 2 ^ (min (i + 1) s.toNat) = addB s bB y % 2 ^ (min (i + 1) s.toNat) := by
  unfold addB
  have hd : 2 ^ min (i + 1) s.toNat ∣ 2 ^ s.toNat := Nat.pow_dvd_pow 2 (Nat.min_le_right _ _)
  rw [Nat.mod_mod_of_dvd _ hd, Nat.mod_mod_of_dvd _ hd]
  have key : ∀ b : Nat, (2 * b + y.toNat) % 2 ^ min (i + 1) s.toNat = (2 * (b % 2 ^ min i s.toNat) + y.toNat) % 2 ^ min (i + 1) s.toNat := by
    intro b
    obtain ⟨m, hm⟩ : ∃ m, 2 ^ min (i + 1) s.toNat = 2 ^ m ∧ m ≤ min i s.toNat + 1 ∧ m = min (i + 1) s.toNat := ⟨_, rfl, by omega, rfl⟩
    rw [hm.1]
    have hdm : 2 ^ m ∣ 2 * 2 ^ min i s.toNat := by
      rw [show 2 * 2 ^ min i s.toNat = 2 ^ (min i s.toNat + 1) from by rw [Nat.pow_succ, Nat.mul_comm]]
      exact Nat.pow_dvd_pow 2 hm.2.1
    obtain ⟨c, hc⟩ := hdm
    have hb : 2 * b = 2 * (b % 2 ^ min i s.toNat) + 2 ^ m * (c * (b / 2 ^ min i s.toNat)) := by
      have h1 := Nat.mod_add_div b (2 ^ min i s.toNat)
      have h2 : 2 * b = 2 * (b % 2 ^ min i s.toNat) + 2 * 2 ^ min i s.toNat * (b / 2 ^ min i s.toNat) := by
        rw [Nat.mul_assoc, ← Nat.mul_add, h1]
      rw [h2, hc, Nat.mul_assoc]
    rw [hb, Nat.add_right_comm, Nat.add_mul_mod_self_left]
  rw [key bx, key bB, h]
set_option maxHeartbeats 2000000 in
theorem walk_in (s : Int) (A1 : Option Addr) (n1 c1 : Nat) (x1 : List Bool) (A2 : Option Addr) (n2 c2 : Nat) (x2 : List Bool) (w : World)
    (r1 : Row (fun x : Bool => [Value.bool x]) 1 w A1 n1 x1) (r2 : Row (fun x : Bool => [Value.bool x]) 1 w A2 n2 x2) (h1 : 1 ≤ s) (h2 : s ≤ 64) (h3 : n1 ≤ 100) (h4 : s ≤ n2) (h5 : n2 ≤ 100) :
    Calls Try.prog 5 #[.int .i64 s, .slice A1 n1 c1, .slice A2 n2 c2] w fun e w' => e = .returned (.bool true) ∧ Below w.heap.size w w' := by
  go_enter Try.func5, Try.ntmps5
  go_wp2_with fail
  refine (awake_ok w).mono ?_
  rintro e wa ⟨rfl, ba⟩
  go_wp2_with fail
  refine (new_any s _ h1 h2).mono ?_
  rintro e w1 ⟨p, rfl, hp, P1, k1⟩
  have b1 := below_keeps ba k1 ba.size (fun _ h => h.elim)
  have z1 := k1.size
  clear k1
  go_wp2_with fail
  refine (new_any s _ h1 h2).mono ?_
  rintro e w2 ⟨q, rfl, hq, Q2, k2⟩
  have b2 := below_keeps b1 k2 b1.size (fun _ h => h.elim)
  have P2 := P1.kept k2 (fun h => h)
  have hpl := P1.lt
  have z2 := k2.size
  have z0 := ba.size
  clear k2 P1 b1 ba
  go_wp2_with fail
  go_loopw [11] (fun i wr => ∃ k : Nat, k ≤ n1 ∧ i = .int .i64 k ∧ At wr p s (min (k : Int) s) (addL s 0 (x1.take k)) ∧ At wr q s 0 0 ∧ Below w.heap.size w wr) (fun i _ => n1 - (intOf i).toNat)
  case atStart => exact ⟨0, by omega, rfl, by rw [show min ((0 : Nat) : Int) s = 0 from by omega]; exact P2, Q2, b2⟩
  case round =>
    obtain ⟨k, hk, rfl, HP, HQ, HB⟩ := hrel
    by_cases hlt : k < n1
    · obtain ⟨b, off, y, rfl, hy, hbl, hc⟩ := r1.at1 HB hlt
      have hmin0 : 0 ≤ min (k : Int) s := by omega
      have hmin1 : min (k : Int) s ≤ s := by omega
      go_wp2_with fail
      refine (add_any p s _ _ y _ h1 h2 hmin0 hmin1 HP).mono ?_
      rintro e w3 ⟨rfl, HP3, k3⟩
      have HB3 := below_keeps HB k3 HB.size (fun i hi => by omega)
      have HQ3 := HQ.kept k3 (by omega)
      go_wp2_with fail
      go_roundw
      case rel => exact ⟨k + 1, by omega, by go_num, by rw [take_next hy, addL_snoc, show min ((k + 1 : Nat) : Int) s = min (min (k : Int) s + 1) s from by omega]; exact HP3, HQ3, HB3⟩
      case measure => simp [intOf]; omega
    · obtain rfl : k = n1 := by omega
      generalize hbx : addL s 0 (x1.take k) = bx0 at HP
      have hbx0 : bx0 < 2 ^ s.toNat := by rw [← hbx]; exact addL_lt _ _ _ (Nat.two_pow_pos _)
      clear hbx
      have HLT := Lib.hid hbx0
      clear hbx0
      go_wp2_with fail
      go_loopw [12] (fun i wr => ∃ j : Nat, j ≤ n2 ∧ i = .int .i64 j ∧ At wr p s (min ((k : Int) + j) s) (addL s bx0 (x2.take j)) ∧ At wr q s (min (j : Int) s) (addL s 0 (x2.take j)) ∧ Below w.heap.size w wr ∧
        addL s bx0 (x2.take j) % 2 ^ (min j s.toNat) = addL s 0 (x2.take j) % 2 ^ (min j s.toNat)) (fun i _ => n2 - (intOf i).toNat)
      case atStart => exact ⟨0, by omega, rfl, by simpa [addL] using HP, by rw [show min ((0 : Nat) : Int) s = 0 from by omega]; exact HQ, HB, by simp [Nat.mod_one]⟩
      case round =>
        obtain ⟨j, hj, rfl, HP, HQ, HB, HE⟩ := hrel
        by_cases hlt : j < n2
        · obtain ⟨b, off, y, rfl, hy, hbl, hc⟩ := r2.at1 HB hlt
          have hmin0 : 0 ≤ min ((k : Int) + j) s := by omega
          have hmin1 : min ((k : Int) + j) s ≤ s := by omega
          have hmin2 : 0 ≤ min (j : Int) s := by omega
          have hmin3 : min (j : Int) s ≤ s := by omega
          have HE2 := Lib.hid (low_step s (by omega) _ _ y j HE)
          clear HE
          go_wp2_with fail
          refine (add_any p s _ _ y _ h1 h2 hmin0 hmin1 HP).mono ?_
          rintro e w3 ⟨rfl, HP3, k3⟩
          have HB3 := below_keeps HB k3 HB.size (fun i hi => by omega)
          have HQ3 := HQ.kept k3 (by omega)
          have hbl3 : b < w.heap.size := hbl
          have hc3 : w3.cell? ⟨b, off + j, none⟩ = some (.bool y) := by
            rw [World.cell?_of_block (a := ⟨b, off + j, none⟩) (k3.block b (by have := HB.size; omega) (by omega))]; exact hc
          go_wp2_with fail
          refine (add_any q s _ _ y _ h1 h2 hmin2 hmin3 HQ3).mono ?_
          rintro e w4 ⟨rfl, HQ4, k4⟩
          have HB4 := below_keeps HB3 k4 HB3.size (fun i hi => by omega)
          have HP4 := HP3.kept k4 (by omega)
          go_wp2_with fail
          go_roundw
          case rel =>
            refine ⟨j + 1, by omega, by go_num, ?_, ?_, HB4, ?_⟩
            · rw [take_next hy, addL_snoc, show min ((k : Int) + (j + 1 : Nat)) s = min (min ((k : Int) + j) s + 1) s from by omega]; exact HP4
            · rw [take_next hy, addL_snoc, show min ((j + 1 : Nat) : Int) s = min (min (j : Int) s + 1) s from by omega]; exact HQ4
            · rw [take_next hy, addL_snoc, addL_snoc]; exact HE2.out
          case measure => simp [intOf]; omega
        · obtain rfl : j = n2 := by omega
          rw [show min ((k : Int) + j) s = s from by omega] at HP
          rw [show min (j : Int) s = s from by omega] at HQ
          rw [show min j s.toNat = s.toNat from by omega, Nat.mod_eq_of_lt (addL_lt _ _ _ HLT.out), Nat.mod_eq_of_lt (addL_lt _ _ _ (Nat.two_pow_pos _))] at HE
          rw [HE] at HP
          generalize hb : addL s 0 (x2.take j) = B at HP HQ
          have hB : B < 2 ^ 64 := by rw [← hb]; exact lt64 s h2 (addL_lt _ _ _ (Nat.two_pow_pos _))
          clear HE hb
          go_wp2_with fail
          refine (bits_any p s _ B _ HP).mono ?_
          rintro e w5 ⟨rfl, rfl⟩
          go_wp2_with fail
          refine (bits_any q s _ B _ HQ).mono ?_
          rintro e w5 ⟨rfl, rfl⟩
          go_wp2_with fail
          refine (yes_any p s _ B _ hB HP).mono ?_
          rintro e w5 ⟨rfl, rfl⟩
          go_wp2_with fail
          refine (yes_any q s _ B _ hB HQ).mono ?_
          rintro e w5 ⟨rfl, rfl⟩
          go_wp2_with fail
          refine (len_any p s _ B _ HP).mono ?_
          rintro e w5 ⟨rfl, rfl⟩
          go_wp2_with fail
          refine (len_any q s _ B _ HQ).mono ?_
          rintro e w5 ⟨rfl, rfl⟩
          go_wp2_with fail
          go_ret
          exact ⟨by simp, HB⟩
set_option maxHeartbeats 1000000 in
theorem walk_out (s : Int) (A1 : Option Addr) (n1 c1 : Nat) (A2 : Option Addr) (n2 c2 : Nat) (w : World) (hm1 : n1 ≤ 9223372036854775807) (hm2 : n2 ≤ 9223372036854775807)
    (h : ¬ (1 ≤ s ∧ s ≤ 64 ∧ n1 ≤ 100 ∧ s ≤ n2 ∧ n2 ≤ 100)) :
    Calls Try.prog 5 #[.int .i64 s, .slice A1 n1 c1, .slice A2 n2 c2] w fun e w' => e = .returned (.bool true) ∧ Below w.heap.size w w' := by
  go_enter Try.func5, Try.ntmps5
  go_wp2_with fail
  refine (awake_ok w).mono ?_
  rintro e wa ⟨rfl, ba⟩
  go_wp2_with fail
  all_goals (go_ret; exact ⟨rfl, ba⟩)
theorem walk (s : Int) (A1 : Option Addr) (n1 c1 : Nat) (x1 : List Bool) (A2 : Option Addr) (n2 c2 : Nat) (x2 : List Bool) (w : World) (ws : (Lit.int .i64 s).wf = true)
    (r1 : Row (fun x : Bool => [Value.bool x]) 1 w A1 n1 x1) (r2 : Row (fun x : Bool => [Value.bool x]) 1 w A2 n2 x2) :
    Calls Try.prog 5 #[.int .i64 s, .slice A1 n1 c1, .slice A2 n2 c2] w fun e w' => e = .returned (.bool true) ∧ Below w.heap.size w w' := by
  by_cases h : 1 ≤ s ∧ s ≤ 64 ∧ n1 ≤ 100 ∧ s ≤ n2 ∧ n2 ≤ 100
  · exact walk_in s A1 n1 c1 x1 A2 n2 c2 x2 w r1 r2 h.1 h.2.1 h.2.2.1 h.2.2.2.1 h.2.2.2.2
  · have m1 := r1.2.1
    have m2 := r2.2.1
    unfold maxLen at m1 m2
    exact walk_out s A1 n1 c1 A2 n2 c2 w m1 m2 h
theorem own : ownKnob Try.prog.godebug = none := by kernel_rfl
theorem laidOut : laidOutB Try.prog = true := by kernel_rfl
set_option maxRecDepth 100000 in
theorem lifted (os : Os) (started : os.Started) (H : Type) (enc : TypeId × Value → H) :
    ReturnsInHanded {} Try.checked os 5 .any (Rows.ringLastSpec.pre6 enc Try.prog Try.f5 Rows.ringLastRow.domain false) (Rows.ringLastSpec.post enc Try.prog Try.f5 false true false false) := by
  refine returnsInHanded_of_change (C := Try.checked) own started (by kernel_rfl) Try.func5
    (ChangeSpec.witness6 (enc := enc) (C := Try.checked) false ⟨#[], #[.int .i64 0, .slice none 0 0, .slice none 0 0], []⟩ 8 (by kernel_rfl) (by kernel_rfl) (by kernel_rfl) (by kernel_rfl)) ?_
  intro W base args ds gs before hval0 hW hcnd _
  have hval : ∀ (j : Nat) t v, Try.f5.params[j]? = some t → args[j]? = some v → Value.okWide Try.prog W .any base t v := hval0
  have hW' := hW
  obtain ⟨p, q, hA0, hV, rfl, hfz, hnd⟩ := hW
  have hA : DataW.TrodAll enc Try.prog W 0 (fun _ => true) true Try.f5.params.toList args.toList ds p := hA0
  rw [Try.params5] at hA hval
  obtain ⟨v0, vs0, d0, ds0, p0, q0, hargs, rfl, rfl, h0, r0⟩ := trodAll_cons hA
  obtain ⟨v1, vs1, d1, ds1, p1, q1, rfl, rfl, rfl, h1, r1⟩ := trodAll_cons r0
  obtain ⟨v2, vs2, d2, ds2, p2, q2, rfl, rfl, rfl, h2, r2⟩ := trodAll_cons r1
  obtain ⟨rfl, rfl, rfl⟩ := trodAll_nil r2
  obtain rfl : args = #[v0, v1, v2] := by cases args; simp_all
  obtain ⟨rfl, rfl⟩ := trodVars_none hV
  obtain ⟨a0, rfl, rfl, rfl, w0⟩ := open_int Try.underlying3 (hval 0 3 v0 rfl rfl) h0
  obtain ⟨A1, n1, c1, rfl⟩ := okWide_slice Try.underlying49 (hval 1 49 v1 rfl rfl)
  have k1 := h1
  have lt1 : ∀ x ∈ p1, x.block < W.heap.size := by obtain ⟨m, hm⟩ := k1; exact DataW.trod_lt m _ _ _ hm
  obtain ⟨x1, w1⟩ : ∃ xs, Row (fun x : Bool => [Value.bool x]) 1 W A1 n1 xs := by
    obtain ⟨fuel, hf⟩ := h1
    exact open_row _ 1 (by omega) Try.underlying49 (by kernel_rfl) (el_bool Try.underlying4) (by simpa [Value.cells] using hf)
  obtain ⟨A2, n2, c2, rfl⟩ := okWide_slice Try.underlying49 (hval 2 49 v2 rfl rfl)
  have k2 := h2
  have lt2 : ∀ x ∈ p2, x.block < W.heap.size := by obtain ⟨m, hm⟩ := k2; exact DataW.trod_lt m _ _ _ hm
  obtain ⟨x2, w2⟩ : ∃ xs, Row (fun x : Bool => [Value.bool x]) 1 W A2 n2 xs := by
    obtain ⟨fuel, hf⟩ := h2
    exact open_row _ 1 (by omega) Try.underlying49 (by kernel_rfl) (el_bool Try.underlying4) (by simpa [Value.cells] using hf)
  clear hA0 hval0
  refine (walk a0 A1 n1 c1 x1 A2 n2 c2 x2 W w0 w1 w2).mono fun e W' ⟨he, bel⟩ => ?_
  subst he
  exact ⟨_, rfl, _, _, _, [], _, [], hW', trodAll_mk1 (shut_bool Try.underlying4 _), (trodAll_cons_mk (shut_int Try.underlying3 w0) (trodAll_cons_mk (Below.trod laidOut (by kernel_rfl) (of_decide_eq_true (by kernel_rfl)) k1 bel lt1) (trodAll_cons_mk (Below.trod laidOut (by kernel_rfl) (of_decide_eq_true (by kernel_rfl)) k2 bel lt2) trodAll_mk0))), rfl, bel.frame _, fun h => by cases h⟩
theorem over : Rows.ringLastRow.holds Try.pinned (OpenSpec.ofChange Rows.ringLastSpec) :=
  OpenClaim.holds_of_wide 5 Try.f5 rfl rfl rfl rfl rfl rfl rfl ⟨rfl, rfl, rfl, rfl, rfl⟩ rfl rfl rfl rfl rfl (by kernel_rfl) Try.func5 (by kernel_rfl)
    (of_decide_eq_true (by kernel_rfl)) (by unfold Func.isWrapper; first | (rw [if_pos (by decide +kernel)]; kernel_rfl) | (rw [if_neg (by decide +kernel)]; exact ⟨rfl, rfl⟩))
    (fun os started H enc _ => lifted os started H enc)
/-- The statement. -/
theorem proved : Rows.RingLastSaid := over
#print axioms proved
end RingLast
end Go.Proofs.Ytpfhogbkbodfjaa
