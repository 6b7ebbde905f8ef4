/- The law RingPlays returns true at every input and leaves its arguments alone. Conditions: none. -/
import Derived.Test.YtpfhogbkbodfjaaAwake7
import Derived.Test.YtpfhogbkbodfjaaRefRing2
import Derived.Test.YtpfhogbkbodfjaaArgs
namespace Go.Proofs.Ytpfhogbkbodfjaa
open Go.RowKit Go.ChangeShapes Go.WideShapes Go.ChangeAt Go.Deep
set_option linter.unusedVariables false
set_option linter.unusedSimpArgs false
namespace RingPlays
open RefRing
theorem val_cons (x : Bool) (l : List Bool) : val (x :: l) = x.toNat * 2 ^ l.length + val l := by
  induction l using snoc_ind with
  | h0 => cases x <;> rfl
  | h l y ih =>
    rw [← List.cons_append, val_snoc, val_snoc, ih, List.length_append, List.length_singleton, Nat.pow_succ, Nat.mul_add]
    have : 2 * (x.toNat * 2 ^ l.length) = x.toNat * (2 ^ l.length * 2) := by rw [Nat.mul_comm 2, Nat.mul_assoc]
    omega
theorem push_val (s : Int) (hs : 1 ≤ s) (xs : List Bool) (y : Bool) (hl : (xs.length : Int) ≤ s) :
    val (push s xs y) = Ring.addB s (val xs) y ∧ ((push s xs y).length : Int) = min ((xs.length : Int) + 1) s := by
  have h1 := val_snoc xs y
  unfold push Ring.addB
  by_cases h : s < ((xs ++ [y]).length : Int)
  · rw [if_pos h]
    have hlen : xs.length = s.toNat := by simp at h; omega
    obtain ⟨z, zs, hz⟩ : ∃ z zs, xs ++ [y] = z :: zs := by
      cases xs with
      | nil => exact ⟨y, [], rfl⟩
      | cons x xs => exact ⟨x, xs ++ [y], rfl⟩
    have hzl : zs.length = s.toNat := by have := congrArg List.length hz; simp at this; omega
    rw [hz, val_cons, hzl] at h1
    rw [hz, List.tail_cons, ← h1, Nat.add_comm, Nat.add_mul_mod_self_right, Nat.mod_eq_of_lt (by have := val_lt zs; rw [hzl] at this; exact this)]
    exact ⟨rfl, by omega⟩
  · rw [if_neg h, h1]
    have hlt := val_lt (xs ++ [y])
    simp at h
    have hp : 2 ^ (xs ++ [y]).length ≤ 2 ^ s.toNat := Nat.pow_le_pow_right (by omega) (by simp; omega)
    rw [Nat.mod_eq_of_lt (by omega)]
    exact ⟨rfl, by simp; omega⟩
theorem cnt_pop (xs : List Bool) : ∀ n, xs.length ≤ n → Ones.pop n (val xs) = cnt xs := by
  induction xs using snoc_ind with
  | h0 => intro n _; exact Ones.pop_zero n
  | h xs y ih =>
    intro n hn
    simp at hn
    obtain ⟨m, rfl⟩ : ∃ m, n = 1 + m := ⟨n - 1, by omega⟩
    rw [Ones.pop_add, Ones.pop_one, val_snoc, cnt_snoc]
    have hy : y.toNat ≤ 1 := by cases y <;> decide
    rw [show (2 * val xs + y.toNat) / 2 ^ 1 = val xs from by omega, ih m (by omega)]
    omega
theorem bit_val (xs : List Bool) : ∀ k, k < xs.length → xs[xs.length - 1 - k]? = some ((val xs).testBit k) := by
  induction xs using snoc_ind with
  | h0 => intro k hk; simp at hk
  | h xs y ih =>
    intro k hk
    simp at hk
    rw [val_snoc, List.length_append, List.length_singleton, Nat.add_sub_cancel]
    cases k with
    | zero =>
      rw [Nat.sub_zero, List.getElem?_append_right (by omega), Nat.sub_self, Nat.testBit_zero]
      cases y <;> simp
    | succ k =>
      rw [List.getElem?_append_left (by omega), Nat.testBit_succ]
      have hy : y.toNat ≤ 1 := by cases y <;> decide
      rw [show (2 * val xs + y.toNat) / 2 = val xs from by omega, show xs.length - (k + 1) = xs.length - 1 - k from by omega]
      exact ih k (by omega)
set_option maxHeartbeats 4000000 in
set_option maxRecDepth 100000 in
theorem walk_in (s : Int) (A1 : Option Addr) (n1 c1 : Nat) (x1 : List Bool) (back : Int) (w : World)
    (r1 : Row (fun x : Bool => [Value.bool x]) 1 w A1 n1 x1) (h1 : 1 ≤ s) (h2 : s ≤ 64) (h3 : n1 ≤ 150) :
    Calls Try.prog 11 #[.int .i64 s, .slice A1 n1 c1, .int .i64 back] w fun e w' => e = .returned (.bool true) ∧ Below w.heap.size w w' := by
  go_enter Try.func11, Try.ntmps11
  go_wp2_with fail
  refine (Ring.awake_ok w).mono ?_
  rintro e wa ⟨rfl, ba⟩
  go_wp2_with fail
  refine (Ring.new_any s _ h1 h2).mono ?_
  rintro e w1 ⟨p, rfl, hp, P1, k1⟩
  have b1 := below_keeps ba k1 ba.size (fun _ h => h.elim)
  have z1 := k1.size
  have z0 := ba.size
  have hpl := P1.lt
  clear k1 ba
  go_wp2_with fail
  have b2 : Below w.heap.size w (w1.alloc (.cells #[.int .i64 s, .slice none 0 0] 84)) := b1.alloc (by omega) _
  have P2 : Ring.At (w1.alloc (.cells #[.int .i64 s, .slice none 0 0] 84)) p s 0 0 := P1.alloc _
  have Q2 : RefRing.At (w1.alloc (.cells #[.int .i64 s, .slice none 0 0] 84)) w1.heap.size s [] := ⟨none, 0, Blk.new _ _ [_, _], Has.nil _ _ _⟩
  have hpq : p ≠ w1.heap.size := by omega
  have hqB : w.heap.size ≤ w1.heap.size := by omega
  have hpB : w.heap.size ≤ p := by omega
  clear P1 b1 z1 z0 hpl
  generalize w1.heap.size = q at Q2 hpq hqB ⊢
  go_loopw [10] (fun i wr => ∃ (k : Nat) (xs : List Bool), k ≤ n1 ∧ i = .int .i64 k ∧ (xs.length : Int) ≤ s ∧ Ring.At wr p s (xs.length : Int) (val xs) ∧ RefRing.At wr q s xs ∧ Below w.heap.size w wr) (fun i _ => n1 - (intOf i).toNat)
  case atStart => exact ⟨0, [], by omega, rfl, by simp; omega, P2, Q2, b2⟩
  case round =>
    obtain ⟨k, xs, hk, rfl, hxl, HP, HQ, HB⟩ := hrel
    by_cases hlt : k < n1
    · obtain ⟨b, off, y, rfl, hy, hbl, hc⟩ := r1.at1 HB hlt
      have hxs := push_val s h1 xs y hxl
      have hl0 : (0 : Int) ≤ (xs.length : Int) := by omega
      go_wp2_with fail
      refine (Ring.add_any p s _ _ y _ h1 h2 hl0 hxl HP).mono ?_
      rintro e w3 ⟨rfl, HP3, k3⟩
      have HB3 := below_keeps HB k3 HB.size (fun i hi => by omega)
      have HQ3 := HQ.kept k3 (fun h => hpq h.symm) (fun g cur hg h => own_ne HP (by decide) g cur hg h)
      have hc3 : w3.cell? ⟨b, off + k, none⟩ = some (.bool y) := by
        rw [World.cell?_of_block (a := ⟨b, off + k, none⟩) (k3.block b (by have := HB.size; omega) (by omega))]; exact hc
      go_wp2_with fail
      refine (RefRing.add_any q s xs y _ h1 (by omega) HQ3).mono ?_
      rintro e w4 ⟨rfl, HQ4, k4⟩
      have HB4 := below_keeps HB3 k4 HB3.size (fun i hi => by omega)
      have HP4 := HP3.kept k4 hpq
      rw [← hxs.1, ← hxs.2] at HP4
      obtain ⟨zs, hzs⟩ : ∃ zs, zs = push s xs y := ⟨_, rfl⟩
      rw [← hzs] at HP4 HQ4 hxs
      have hzl : (zs.length : Int) ≤ s := by omega
      clear HP HQ HB HP3 HQ3 HB3 hc3 hc k3 k4 hxs hzs
      have hz64 : zs.length ≤ 64 := by omega
      have HLT := Lib.hid (Ring.lt64 s h2 (Nat.lt_of_lt_of_le (val_lt zs) (Nat.pow_le_pow_right (by omega) (show zs.length ≤ s.toNat by omega))))
      have HCP := Lib.hid (cnt_pop zs 64 (by omega))
      by_cases hb : 0 ≤ back ∧ back < (zs.length : Int)
      · obtain ⟨m, rfl⟩ := Int.eq_ofNat_of_zero_le hb.1
        obtain ⟨t, ht⟩ : ∃ t, (val zs).testBit m = t := ⟨_, rfl⟩
        have hbv := bit_val zs m (by omega)
        rw [ht] at hbv
        have HT := Lib.hid ht
        have HV := Lib.hid hbv
        clear ht hbv
        go_wp2_with fail
        refine (Ring.at_in p s _ _ m t _ hb.2 (by omega) HLT.out HT.out HP4).mono ?_
        rintro e w5 ⟨rfl, rfl⟩
        go_wp2_with fail
        refine (RefRing.at_in q s zs m t _ (by omega) (by omega) HV.out HQ4).mono ?_
        rintro e w5 ⟨rfl, k5⟩
        have HB5 := below_keeps HB4 k5 HB4.size (fun i hi => hi.elim)
        have HP5 := HP4.kept k5 (fun h => h)
        have HQ5 := HQ4.kept k5 (fun h => h) (fun _ _ _ h => h)
        clear HB4 HP4 HQ4 k5
        obtain ⟨A, c, hqb, _⟩ := id HQ5
        have d1 := hqb.cellAt (i := 1) rfl
        clear hqb
        have Y1 := Lib.hid (fun n => quiet_eq (n := n) (w := w5) (by have h := Ring.yes_any p s _ _ (w5.drewN n) HLT.out HP5; rw [HCP.out] at h; exact h))
        have Y2 := Lib.hid (fun n => quiet_eq (n := n) (w := w5) (Ring.len_any p s _ _ _ HP5))
        have Y3 := Lib.hid (fun n => quiet_eq (n := n) (w := w5) (Ring.bits_any p s _ _ _ HP5))
        have Y4 := Lib.hid (fun n => quiet_eq (n := n) (w := w5) (RefRing.yes_any q s zs _ (by omega) HQ5))
        have Y5 := Lib.hid (fun n => quiet_eq (n := n) (w := w5) (RefRing.bits_any q s zs _ (by omega) HQ5))
        go_wp2_with fail
        go_quiet ((first | (go_at_call 29; exact Y1.out _) | (go_at_call 30; exact Y2.out _) | (go_at_call 28; exact Y3.out _) | (go_at_call 46; exact Y4.out _) | (go_at_call 47; exact Y5.out _)))
        go_wp2_with fail
        go_roundw
        case rel => exact ⟨k + 1, zs, by omega, by go_num, hzl, HP5, HQ5, below_drewN HB5 _⟩
        case measure => simp [intOf]; omega
      · go_wp2_with fail
        refine (Ring.at_out p s _ _ back _ (by omega) HP4).mono ?_
        rintro e w5 ⟨rfl, rfl⟩
        go_wp2_with fail
        refine (RefRing.at_out q s zs back _ (by omega) (by omega) HQ4).mono ?_
        rintro e w5 ⟨rfl, k5⟩
        have HB5 := below_keeps HB4 k5 HB4.size (fun i hi => hi.elim)
        have HP5 := HP4.kept k5 (fun h => h)
        have HQ5 := HQ4.kept k5 (fun h => h) (fun _ _ _ h => h)
        clear HB4 HP4 HQ4 k5
        obtain ⟨A, c, hqb, _⟩ := id HQ5
        have d1 := hqb.cellAt (i := 1) rfl
        clear hqb
        have Y1 := Lib.hid (fun n => quiet_eq (n := n) (w := w5) (by have h := Ring.yes_any p s _ _ (w5.drewN n) HLT.out HP5; rw [HCP.out] at h; exact h))
        have Y2 := Lib.hid (fun n => quiet_eq (n := n) (w := w5) (Ring.len_any p s _ _ _ HP5))
        have Y3 := Lib.hid (fun n => quiet_eq (n := n) (w := w5) (Ring.bits_any p s _ _ _ HP5))
        have Y4 := Lib.hid (fun n => quiet_eq (n := n) (w := w5) (RefRing.yes_any q s zs _ (by omega) HQ5))
        have Y5 := Lib.hid (fun n => quiet_eq (n := n) (w := w5) (RefRing.bits_any q s zs _ (by omega) HQ5))
        go_wp2_with fail
        go_quiet ((first | (go_at_call 29; exact Y1.out _) | (go_at_call 30; exact Y2.out _) | (go_at_call 28; exact Y3.out _) | (go_at_call 46; exact Y4.out _) | (go_at_call 47; exact Y5.out _)))
        go_wp2_with fail
        go_roundw
        case rel => exact ⟨k + 1, zs, by omega, by go_num, hzl, HP5, HQ5, below_drewN HB5 _⟩
        case measure => simp [intOf]; omega
    · go_wp2_with fail
      go_ret
      exact ⟨rfl, HB⟩
set_option maxHeartbeats 1000000 in
theorem walk_no (s : Int) (A1 : Option Addr) (n1 c1 : Nat) (back : Int) (w : World) (h : ¬ (1 ≤ s ∧ s ≤ 64)) :
    Calls Try.prog 11 #[.int .i64 s, .slice A1 n1 c1, .int .i64 back] w fun e w' => e = .returned (.bool true) ∧ Below w.heap.size w w' := by
  go_enter Try.func11, Try.ntmps11
  go_wp2_with fail
  refine (Ring.awake_ok w).mono ?_
  rintro e wa ⟨rfl, ba⟩
  go_wp2_with fail
  refine (Ring.new_no s _ (by omega)).mono ?_
  rintro e w1 ⟨rfl, rfl⟩
  go_wp2_with fail
  all_goals (go_ret; exact ⟨rfl, ba⟩)
set_option maxHeartbeats 1000000 in
theorem walk_out (s : Int) (A1 : Option Addr) (n1 c1 : Nat) (back : Int) (w : World) (hm1 : n1 ≤ 9223372036854775807) (h1 : 1 ≤ s) (h2 : s ≤ 64) (h3 : 150 < n1) :
    Calls Try.prog 11 #[.int .i64 s, .slice A1 n1 c1, .int .i64 back] w fun e w' => e = .returned (.bool true) ∧ Below w.heap.size w w' := by
  go_enter Try.func11, Try.ntmps11
  go_wp2_with fail
  refine (Ring.awake_ok w).mono ?_
  rintro e wa ⟨rfl, ba⟩
  go_wp2_with fail
  refine (Ring.new_any s _ h1 h2).mono ?_
  rintro e w1 ⟨p, rfl, hp, P1, k1⟩
  have b1 := below_keeps ba k1 ba.size (fun _ h => h.elim)
  clear P1 k1
  go_wp2_with fail
  all_goals (go_ret; exact ⟨rfl, b1⟩)
theorem walk (s : Int) (A1 : Option Addr) (n1 c1 : Nat) (x1 : List Bool) (back : Int) (w : World) (ws : (Lit.int .i64 s).wf = true)
    (r1 : Row (fun x : Bool => [Value.bool x]) 1 w A1 n1 x1) (wb : (Lit.int .i64 back).wf = true) :
    Calls Try.prog 11 #[.int .i64 s, .slice A1 n1 c1, .int .i64 back] w fun e w' => e = .returned (.bool true) ∧ Below w.heap.size w w' := by
  by_cases h : 1 ≤ s ∧ s ≤ 64
  · by_cases h3 : n1 ≤ 150
    · exact walk_in s A1 n1 c1 x1 back w r1 h.1 h.2 h3
    · have m1 := r1.2.1
      unfold maxLen at m1
      exact walk_out s A1 n1 c1 back w m1 h.1 h.2 (by omega)
  · exact walk_no s A1 n1 c1 back w h
theorem own : ownKnob Try.prog.godebug = none := by kernel_rfl
theorem laidOut : laidOutB Try.prog = true := by kernel_rfl
set_option maxRecDepth 100000 in
theorem lifted (os : Os) (started : os.Started) (H : Type) (enc : TypeId × Value → H) :
    ReturnsInHanded {} Try.checked os 11 .any (Rows.ringPlaysSpec.pre6 enc Try.prog Try.f11 Rows.ringPlaysRow.domain false) (Rows.ringPlaysSpec.post enc Try.prog Try.f11 false true false false) := by
  refine returnsInHanded_of_change (C := Try.checked) own started (by kernel_rfl) Try.func11
    (ChangeSpec.witness6 (enc := enc) (C := Try.checked) false ⟨#[], #[.int .i64 0, .slice none 0 0, .int .i64 0], []⟩ 8 (by kernel_rfl) (by kernel_rfl) (by kernel_rfl) (by kernel_rfl)) ?_
  intro W base args ds gs before hval0 hW hcnd _
  have hval : ∀ (j : Nat) t v, Try.f11.params[j]? = some t → args[j]? = some v → Value.okWide Try.prog W .any base t v := hval0
  have hW' := hW
  obtain ⟨p, q, hA0, hV, rfl, hfz, hnd⟩ := hW
  have hA : DataW.TrodAll enc Try.prog W 0 (fun _ => true) true Try.f11.params.toList args.toList ds p := hA0
  rw [Try.params11] at hA hval
  obtain ⟨v0, vs0, d0, ds0, p0, q0, hargs, rfl, rfl, h0, r0⟩ := trodAll_cons hA
  obtain ⟨v1, vs1, d1, ds1, p1, q1, rfl, rfl, rfl, h1, r1⟩ := trodAll_cons r0
  obtain ⟨v2, vs2, d2, ds2, p2, q2, rfl, rfl, rfl, h2, r2⟩ := trodAll_cons r1
  obtain ⟨rfl, rfl, rfl⟩ := trodAll_nil r2
  obtain rfl : args = #[v0, v1, v2] := by cases args; simp_all
  obtain ⟨rfl, rfl⟩ := trodVars_none hV
  obtain ⟨a0, rfl, rfl, rfl, w0⟩ := open_int Try.underlying3 (hval 0 3 v0 rfl rfl) h0
  obtain ⟨A1, n1, c1, rfl⟩ := okWide_slice Try.underlying49 (hval 1 49 v1 rfl rfl)
  have k1 := h1
  have lt1 : ∀ x ∈ p1, x.block < W.heap.size := by obtain ⟨m, hm⟩ := k1; exact DataW.trod_lt m _ _ _ hm
  obtain ⟨x1, w1⟩ : ∃ xs, Row (fun x : Bool => [Value.bool x]) 1 W A1 n1 xs := by
    obtain ⟨fuel, hf⟩ := h1
    exact open_row _ 1 (by omega) Try.underlying49 (by kernel_rfl) (el_bool Try.underlying4) (by simpa [Value.cells] using hf)
  obtain ⟨a2, rfl, rfl, rfl, w2⟩ := open_int Try.underlying3 (hval 2 3 v2 rfl rfl) h2
  clear hA0 hval0
  refine (walk a0 A1 n1 c1 x1 a2 W w0 w1 w2).mono fun e W' ⟨he, bel⟩ => ?_
  subst he
  exact ⟨_, rfl, _, _, _, [], _, [], hW', trodAll_mk1 (shut_bool Try.underlying4 _), (trodAll_cons_mk (shut_int Try.underlying3 w0) (trodAll_cons_mk (Below.trod laidOut (by kernel_rfl) (of_decide_eq_true (by kernel_rfl)) k1 bel lt1) (trodAll_cons_mk (shut_int Try.underlying3 w2) trodAll_mk0))), rfl, bel.frame _, fun h => by cases h⟩
theorem over : Rows.ringPlaysRow.holds Try.pinned (OpenSpec.ofChange Rows.ringPlaysSpec) :=
  OpenClaim.holds_of_wide 11 Try.f11 rfl rfl rfl rfl rfl rfl rfl ⟨rfl, rfl, rfl, rfl, rfl⟩ rfl rfl rfl rfl rfl (by kernel_rfl) Try.func11 (by kernel_rfl)
    (of_decide_eq_true (by kernel_rfl)) (by unfold Func.isWrapper; first | (rw [if_pos (by decide +kernel)]; kernel_rfl) | (rw [if_neg (by decide +kernel)]; exact ⟨rfl, rfl⟩))
    (fun os started H enc _ => lifted os started H enc)
/-- The statement. -/
theorem proved : Rows.RingPlaysSaid := over
#print axioms proved
end RingPlays
end Go.Proofs.Ytpfhogbkbodfjaa
