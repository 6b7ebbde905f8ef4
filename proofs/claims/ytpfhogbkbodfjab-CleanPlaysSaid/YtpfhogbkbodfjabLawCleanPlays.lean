/- The law CleanPlays returns true at every input and leaves its arguments alone. Conditions: none. -/
import Derived.Test.YtpfhogbkbodfjabClean
import Derived.Test.YtpfhogbkbodfjabRefLife
import Derived.Test.YtpfhogbkbodfjabArgs
import Derived.Deep.RegionHeld3
import Derived.Deep.RegionWith
import Derived.Deep.DrawnRows
namespace Go.Proofs.Ytpfhogbkbodfjab
open Go.RowKit Go.ChangeShapes Go.WideShapes Go.ChangeAt Go.Deep
set_option linter.unusedVariables false
set_option linter.unusedSimpArgs false
attribute [local go_sem ↓] Go.wp_at_zero Go.wp_at_succ
namespace CleanPlays
open Clean
/-- What holds at the head of each round. -/
structure Inv (w : World) (p q : Nat) (x : L) (wr : World) : Prop where
  ok : x.Ok
  P : Clean.At wr p x
  Q : RefLife.At wr q x
  B : Below w.heap.size w wr
  z : w.heap.size ≤ wr.heap.size
theorem Inv.keep {w : World} {p q : Nat} {x : L} {w1 w2 : World} (h : Inv w p q x w1) (k : Keeps (fun _ => False) w1 w2) : Inv w p q x w2 :=
  ⟨h.ok, Blk.kept h.P k (fun h => h), Blk.kept h.Q k (fun h => h), below_keeps h.B k h.z (fun _ h => h.elim), Nat.le_trans h.z k.size⟩
theorem Inv.num {w : World} {p q : Nat} {x : L} {wr : World} (h : Inv w p q x wr) : (0 ≤ x.r ∧ x.r ≤ 1000000) ∧ (0 ≤ x.k ∧ x.k ≤ 1000000) := by
  obtain ⟨b1, b2, a1, a2, c1, c2, r1, r2, r3, k1, k2, s1, s2, e0, e1, e2, e3⟩ := h.ok
  omega
/-- Both lives turn alike. -/
theorem Inv.both {w : World} {p q : Nat} {x y : L} {w1 w2 w3 : World} (h : Inv w p q x w1) (hy : y.Ok) (hpB : w.heap.size ≤ p) (hqB : w.heap.size ≤ q) (P2 : Clean.At w2 p y) (k2 : Keeps (· = p) w1 w2) (Q3 : RefLife.At w3 q y) (k3 : Keeps (· = q) w2 w3) : Inv w p q y w3 := by
  have hne : p ≠ q := Blk.ne_ h.P h.Q (by decide)
  have z2 := Nat.le_trans h.z k2.size
  exact ⟨hy, Blk.kept P2 k3 (fun h => hne h), Q3, below_keeps (below_keeps h.B k2 h.z (fun i hi => by omega)) k3 z2 (fun i hi => by omega), Nat.le_trans z2 k3.size⟩
/-- The same, each number by a letter of its own. -/
structure Inv2 (w : World) (p q : Nat) (x : L) (r k st lf ch : Int) (wr : World) : Prop where
  I : Inv w p q x wr
  hr : x.r = r
  hk : x.k = k
  hst : x.st = st
  hlf : x.left = lf
  hch : x.charge = ch
section
variable {w : World} {p q : Nat} {x : L} {r k st lf ch : Int} {W : World}
theorem Inv2.keep {w2 : World} (h : Inv2 w p q x r k st lf ch W) (kk : Keeps (fun _ => False) W w2) : Inv2 w p q x r k st lf ch w2 := ⟨h.I.keep kk, h.hr, h.hk, h.hst, h.hlf, h.hch⟩
theorem Inv2.cells (h : Inv2 w p q x r k st lf ch W) : W.cell? ⟨q, 3, none⟩ = some (.int .i64 r) ∧ W.cell? ⟨q, 4, none⟩ = some (.int .i64 k) ∧ W.cell? ⟨q, 5, none⟩ = some (.int .i64 st) := by
  obtain ⟨c0, c1, c2, c3, c4, c5⟩ := RefLife.At.at_ h.I.Q
  rw [h.hr] at c3; rw [h.hk] at c4; rw [h.hst] at c5
  exact ⟨c3, c4, c5⟩
theorem c_stage (h : Inv2 w p q x r k st lf ch W) : Calls Try.prog 20 #[.pointer (some ⟨p, 0, none⟩)] W fun e w' => e = .returned (.int .i64 st) ∧ Inv2 w p q x r k st lf ch w' :=
  (stage_any p x W h.I.P).mono fun e w' ⟨he, hw⟩ => ⟨by rw [he, h.hst], by rw [← hw]; exact h⟩
theorem c_used (h : Inv2 w p q x r k st lf ch W) : Calls Try.prog 22 #[.pointer (some ⟨p, 0, none⟩)] W fun e w' => e = .returned (.tuple #[.int .i64 r, .int .i64 k]) ∧ Inv2 w p q x r k st lf ch w' :=
  (used_any p x W h.I.P).mono fun e w' ⟨he, hw⟩ => ⟨by rw [he, h.hr, h.hk], h.keep hw⟩
theorem c_left (h : Inv2 w p q x r k st lf ch W) : Calls Try.prog 17 #[.pointer (some ⟨p, 0, none⟩)] W fun e w' => e = .returned (.int .i64 lf) ∧ Inv2 w p q x r k st lf ch w' :=
  (left_any p x W h.I.ok h.I.P).mono fun e w' ⟨he, hw⟩ => ⟨by rw [he, h.hlf], h.keep hw⟩
theorem c_charge (h : Inv2 w p q x r k st lf ch W) : Calls Try.prog 18 #[.pointer (some ⟨p, 0, none⟩)] W fun e w' => e = .returned (.int .i64 ch) ∧ Inv2 w p q x r k st lf ch w' :=
  (charge_any p x W h.I.ok h.I.P).mono fun e w' ⟨he, hw⟩ => ⟨by rw [he, h.hch], h.keep hw⟩
theorem r_left (h : Inv2 w p q x r k st lf ch W) : Calls Try.prog 25 #[.pointer (some ⟨q, 0, none⟩)] W fun e w' => e = .returned (.int .i64 lf) ∧ Inv2 w p q x r k st lf ch w' :=
  (RefLife.left_any q x W h.I.ok h.I.Q).mono fun e w' ⟨he, hw⟩ => ⟨by rw [he, h.hlf], h.keep hw⟩
theorem r_charge (h : Inv2 w p q x r k st lf ch W) : Calls Try.prog 26 #[.pointer (some ⟨q, 0, none⟩)] W fun e w' => e = .returned (.int .i64 ch) ∧ Inv2 w p q x r k st lf ch w' :=
  (RefLife.charge_drawn q x W h.I.ok h.I.Q).mono fun e w' ⟨he, hw⟩ => ⟨by rw [he, h.hch], h.keep (hw.keeps _)⟩
end
set_option maxRecDepth 100000 in
set_option maxHeartbeats 4000000 in
/-- The last test of a round. -/
theorem walk_in (b a c : Int) (A1 : Option Addr) (n1 c1 : Nat) (x1 : List Bool) (w : World) (r1 : Row (fun x : Bool => [Value.bool x]) 1 w A1 n1 x1)
    (h1 : 1 ≤ b) (h2 : b ≤ 1000) (h3 : 1 ≤ a) (h4 : a ≤ 1000) (h5 : 0 ≤ c) (h6 : c ≤ 100) (h7 : n1 ≤ 100) :
    Calls Try.prog 5 #[.int .i64 b, .int .i64 a, .int .i64 c, .slice A1 n1 c1] w fun e w' => e = .returned (.bool true) ∧ Below w.heap.size w w' := by
  have hg : good b a c := by unfold good; omega
  go_enter Try.func5, Try.ntmps5
  go_wp2_with fail
  refine (awake_ok w).mono ?_
  rintro e wa ⟨rfl, ba⟩
  go_wp2_with fail
  refine (new_any b a c _ hg).mono ?_
  rintro e w1 ⟨p, rfl, hp, P1, k1⟩
  have b1 := below_keeps ba k1 ba.size (fun _ h => h.elim)
  have z1 : w.heap.size ≤ w1.heap.size := Nat.le_trans ba.size k1.size
  have hpB : w.heap.size ≤ p := Nat.le_trans ba.size hp
  clear k1 ba
  go_wp2_with fail
  have I1 : Inv w p w1.heap.size ⟨b, a, c, 0, 0, 0⟩ (w1.alloc (.cells (L.cells ⟨b, a, c, 0, 0, 0⟩).toArray 35)) :=
    ⟨ok_new hg, Blk.alloc P1 _, Blk.new _ _ _, b1.alloc z1 _, Nat.le_trans z1 (by simp)⟩
  have hqB : w.heap.size ≤ w1.heap.size := z1
  clear P1 b1 z1 hg
  generalize w1.heap.size = q at I1 hqB ⊢
  go_loopw [12] (fun i wr => ∃ (k : Nat) (x : L), k ≤ n1 ∧ i = .int .i64 k ∧ Inv w p q x wr) (fun i _ => n1 - (intOf i).toNat)
  case atStart => exact ⟨0, _, by omega, rfl, I1⟩
  case round =>
    obtain ⟨k, x, hk, rfl, I⟩ := hrel
    by_cases hlt : k < n1
    · obtain ⟨bb, off, y, rfl, hy, hbl, hc⟩ := r1.at1 I.B hlt
      obtain ⟨hr, hkk⟩ := I.num
      cases y with
      | true =>
        go_wp2_with fail
        refine (Clean.run_any p x _ hr hkk I.P).mono ?_
        rintro e w3 ⟨rfl, P3, k3⟩
        have hne : p ≠ q := Blk.ne_ I.P I.Q (by decide)
        have Q3 : RefLife.At w3 q x := Blk.kept I.Q k3 (fun h => hne h.symm)
        have hc3 : w3.cell? ⟨bb, off + k, none⟩ = some (.bool true) := by
          rw [World.cell?_of_block (a := ⟨bb, off + k, none⟩) (k3.block bb (by have := I.z; omega) (by omega))]; exact hc
        clear hne
        go_wp2_with fail
        refine (RefLife.run_any q x _ hr hkk Q3).mono ?_
        rintro e w4 ⟨rfl, Q4, k4⟩
        have hc4 : w4.cell? ⟨bb, off + k, none⟩ = some (.bool true) := by
          rw [World.cell?_of_block (a := ⟨bb, off + k, none⟩) (k4.block bb (by have := I.z; have := k3.size; omega) (by omega))]; exact hc3
        have J := I.both (L.Ok.run I.ok) hpB hqB P3 k3 Q4 k4
        obtain ⟨t, ht⟩ : ∃ t, x.run.1 = t := ⟨_, rfl⟩
        rw [ht]
        obtain ⟨z, r, k', st, lf, ch, J2⟩ : ∃ z r k' st lf ch, Inv2 w p q z r k' st lf ch w4 := ⟨_, _, _, _, _, _, J, rfl, rfl, rfl, rfl, rfl⟩
        clear ht J I hr hkk P3 k3 Q3 Q4 k4 hc hc3
        go_wp2_with fail
        refine (c_used J2).mono ?_
        rintro e w5 ⟨rfl, J4⟩
        have J5 := J4.keep ((Keeps.refl (fun _ => False) w5).drew)
        clear J2 hc4
        go_wp2_with fail
        go_region_held3 (fun W' => W'.cell? ⟨q, 3, none⟩ = some (.int .i64 r) ∧ W'.cell? ⟨q, 4, none⟩ = some (.int .i64 k') ∧ W'.cell? ⟨q, 5, none⟩ = some (.int .i64 st)) (first | exact J5.cells | exact J6.cells | exact J7.cells | exact J8.cells | exact J9.cells | exact J4.cells | exact J10.cells)
          (first | (go_at_call 20; refine (c_stage J5).mono ?_; rintro e w6 ⟨rfl, J6⟩) | (go_at_call 17; refine (c_left J6).mono ?_; rintro e w7 ⟨rfl, J7⟩) | (go_at_call 25; refine (r_left J7).mono ?_; rintro e w8 ⟨rfl, J8⟩) | (go_at_call 18; refine (c_charge J8).mono ?_; rintro e w9 ⟨rfl, J9⟩) | (go_at_call 26; refine (r_charge J9).mono ?_; rintro e w10 ⟨rfl, J10⟩))
        go_wp2_with fail
        go_roundw
        case rel => exact ⟨k + 1, z, by omega, by go_num, J10.I⟩
        case measure => simp [intOf]; omega
      | false =>
        go_wp2_with fail
        refine (Clean.abort_any p x _ I.P).mono ?_
        rintro e w3 ⟨rfl, P3, k3⟩
        have hne : p ≠ q := Blk.ne_ I.P I.Q (by decide)
        have Q3 : RefLife.At w3 q x := Blk.kept I.Q k3 (fun h => hne h.symm)
        have hc3 : w3.cell? ⟨bb, off + k, none⟩ = some (.bool false) := by
          rw [World.cell?_of_block (a := ⟨bb, off + k, none⟩) (k3.block bb (by have := I.z; omega) (by omega))]; exact hc
        clear hne
        go_wp2_with fail
        refine (RefLife.abort_any q x _ Q3).mono ?_
        rintro e w4 ⟨rfl, Q4, k4⟩
        have hc4 : w4.cell? ⟨bb, off + k, none⟩ = some (.bool false) := by
          rw [World.cell?_of_block (a := ⟨bb, off + k, none⟩) (k4.block bb (by have := I.z; have := k3.size; omega) (by omega))]; exact hc3
        have J := I.both (L.Ok.abort I.ok) hpB hqB P3 k3 Q4 k4
        obtain ⟨t, ht⟩ : ∃ t, x.abort.1 = t := ⟨_, rfl⟩
        rw [ht]
        obtain ⟨z, r, k', st, lf, ch, J2⟩ : ∃ z r k' st lf ch, Inv2 w p q z r k' st lf ch w4 := ⟨_, _, _, _, _, _, J, rfl, rfl, rfl, rfl, rfl⟩
        clear ht J I hr hkk P3 k3 Q3 Q4 k4 hc hc3
        go_wp2_with fail
        refine (c_used J2).mono ?_
        rintro e w5 ⟨rfl, J4⟩
        have J5 := J4.keep ((Keeps.refl (fun _ => False) w5).drew)
        clear J2 hc4
        go_wp2_with fail
        go_region_held3 (fun W' => W'.cell? ⟨q, 3, none⟩ = some (.int .i64 r) ∧ W'.cell? ⟨q, 4, none⟩ = some (.int .i64 k') ∧ W'.cell? ⟨q, 5, none⟩ = some (.int .i64 st)) (first | exact J5.cells | exact J6.cells | exact J7.cells | exact J8.cells | exact J9.cells | exact J4.cells | exact J10.cells)
          (first | (go_at_call 20; refine (c_stage J5).mono ?_; rintro e w6 ⟨rfl, J6⟩) | (go_at_call 17; refine (c_left J6).mono ?_; rintro e w7 ⟨rfl, J7⟩) | (go_at_call 25; refine (r_left J7).mono ?_; rintro e w8 ⟨rfl, J8⟩) | (go_at_call 18; refine (c_charge J8).mono ?_; rintro e w9 ⟨rfl, J9⟩) | (go_at_call 26; refine (r_charge J9).mono ?_; rintro e w10 ⟨rfl, J10⟩))
        go_wp2_with fail
        go_roundw
        case rel => exact ⟨k + 1, z, by omega, by go_num, J10.I⟩
        case measure => simp [intOf]; omega
    · go_wp2_with fail
      go_ret
      exact ⟨rfl, I.B⟩
set_option maxHeartbeats 1000000 in
theorem walk_no (b a c : Int) (A1 : Option Addr) (n1 c1 : Nat) (w : World) (h : ¬ (1 ≤ b ∧ b ≤ 1000 ∧ 1 ≤ a ∧ a ≤ 1000 ∧ 0 ≤ c ∧ c ≤ 100)) :
    Calls Try.prog 5 #[.int .i64 b, .int .i64 a, .int .i64 c, .slice A1 n1 c1] w fun e w' => e = .returned (.bool true) ∧ Below w.heap.size w w' := by
  go_enter Try.func5, Try.ntmps5
  go_wp2_with fail
  refine (awake_ok w).mono ?_
  rintro e wa ⟨rfl, ba⟩
  go_wp2_with fail
  refine (new_no b a c _ (by unfold good; omega)).mono ?_
  rintro e w1 ⟨rfl, rfl⟩
  go_wp2_with fail
  all_goals (go_ret; exact ⟨rfl, ba⟩)
set_option maxHeartbeats 1000000 in
theorem walk_out (b a c : Int) (A1 : Option Addr) (n1 c1 : Nat) (w : World) (hm1 : n1 ≤ 9223372036854775807) (hg : good b a c) (h3 : 100 < n1) :
    Calls Try.prog 5 #[.int .i64 b, .int .i64 a, .int .i64 c, .slice A1 n1 c1] w fun e w' => e = .returned (.bool true) ∧ Below w.heap.size w w' := by
  obtain ⟨h1, h2, g3, h4, h5, h6⟩ := id hg
  go_enter Try.func5, Try.ntmps5
  go_wp2_with fail
  refine (awake_ok w).mono ?_
  rintro e wa ⟨rfl, ba⟩
  go_wp2_with fail
  refine (new_any b a c _ hg).mono ?_
  rintro e w1 ⟨p, rfl, hp, P1, k1⟩
  have b1 := below_keeps ba k1 ba.size (fun _ h => h.elim)
  clear P1 k1
  go_wp2_with fail
  all_goals (go_ret; exact ⟨rfl, b1⟩)
theorem walk (b a c : Int) (A1 : Option Addr) (n1 c1 : Nat) (x1 : List Bool) (w : World) (wb : (Lit.int .i64 b).wf = true) (wa : (Lit.int .i64 a).wf = true) (wc : (Lit.int .i64 c).wf = true)
    (r1 : Row (fun x : Bool => [Value.bool x]) 1 w A1 n1 x1) :
    Calls Try.prog 5 #[.int .i64 b, .int .i64 a, .int .i64 c, .slice A1 n1 c1] w fun e w' => e = .returned (.bool true) ∧ Below w.heap.size w w' := by
  by_cases h : 1 ≤ b ∧ b ≤ 1000 ∧ 1 ≤ a ∧ a ≤ 1000 ∧ 0 ≤ c ∧ c ≤ 100
  · by_cases h3 : n1 ≤ 100
    · exact walk_in b a c A1 n1 c1 x1 w r1 h.1 h.2.1 h.2.2.1 h.2.2.2.1 h.2.2.2.2.1 h.2.2.2.2.2 h3
    · have m1 := r1.2.1
      unfold maxLen at m1
      exact walk_out b a c A1 n1 c1 w m1 h (by omega)
  · exact walk_no b a c A1 n1 c1 w h
theorem own : ownKnob Try.prog.godebug = none := by kernel_rfl
theorem laidOut : laidOutB Try.prog = true := by kernel_rfl
set_option maxRecDepth 100000 in
theorem lifted (os : Os) (started : os.Started) (H : Type) (enc : TypeId × Value → H) :
    ReturnsInHanded {} Try.checked os 5 .any (Rows.cleanPlaysSpec.pre6 enc Try.prog Try.f5 Rows.cleanPlaysRow.domain false) (Rows.cleanPlaysSpec.post enc Try.prog Try.f5 false true false false) := by
  refine returnsInHanded_of_change (C := Try.checked) own started (by kernel_rfl) Try.func5
    (ChangeSpec.witness6 (enc := enc) (C := Try.checked) false ⟨#[], #[.int .i64 0, .int .i64 0, .int .i64 0, .slice none 0 0], []⟩ 8 (by kernel_rfl) (by kernel_rfl) (by kernel_rfl) (by kernel_rfl)) ?_
  intro W base args ds gs before hval0 hW hcnd _
  have hval : ∀ (j : Nat) t v, Try.f5.params[j]? = some t → args[j]? = some v → Value.okWide Try.prog W .any base t v := hval0
  have hW' := hW
  obtain ⟨p, q, hA0, hV, rfl, hfz, hnd⟩ := hW
  have hA : DataW.TrodAll enc Try.prog W 0 (fun _ => true) true Try.f5.params.toList args.toList ds p := hA0
  rw [Try.params5] at hA hval
  obtain ⟨v0, vs0, d0, ds0, p0, q0, hargs, rfl, rfl, h0, r0⟩ := trodAll_cons hA
  obtain ⟨v1, vs1, d1, ds1, p1, q1, rfl, rfl, rfl, h1, r1⟩ := trodAll_cons r0
  obtain ⟨v2, vs2, d2, ds2, p2, q2, rfl, rfl, rfl, h2, r2⟩ := trodAll_cons r1
  obtain ⟨v3, vs3, d3, ds3, p3, q3, rfl, rfl, rfl, h3, r3⟩ := trodAll_cons r2
  obtain ⟨rfl, rfl, rfl⟩ := trodAll_nil r3
  obtain rfl : args = #[v0, v1, v2, v3] := by cases args; simp_all
  obtain ⟨rfl, rfl⟩ := trodVars_none hV
  obtain ⟨a0, rfl, rfl, rfl, w0⟩ := open_int Try.underlying3 (hval 0 3 v0 rfl rfl) h0
  obtain ⟨a1, rfl, rfl, rfl, w1⟩ := open_int Try.underlying3 (hval 1 3 v1 rfl rfl) h1
  obtain ⟨a2, rfl, rfl, rfl, w2⟩ := open_int Try.underlying3 (hval 2 3 v2 rfl rfl) h2
  obtain ⟨A3, n3, c3, rfl⟩ := okWide_slice Try.underlying32 (hval 3 32 v3 rfl rfl)
  have k3 := h3
  have lt3 : ∀ x ∈ p3, x.block < W.heap.size := by obtain ⟨m, hm⟩ := k3; exact DataW.trod_lt m _ _ _ hm
  obtain ⟨x3, w3⟩ : ∃ xs, Row (fun x : Bool => [Value.bool x]) 1 W A3 n3 xs := by
    obtain ⟨fuel, hf⟩ := h3
    exact open_row _ 1 (by omega) Try.underlying32 (by kernel_rfl) (el_bool Try.underlying4) (by simpa [Value.cells] using hf)
  clear hA0 hval0
  refine (walk a0 a1 a2 A3 n3 c3 x3 W w0 w1 w2 w3).mono fun e W' ⟨he, bel⟩ => ?_
  subst he
  exact ⟨_, rfl, _, _, _, [], _, [], hW', trodAll_mk1 (shut_bool Try.underlying4 _), (trodAll_cons_mk (shut_int Try.underlying3 w0) (trodAll_cons_mk (shut_int Try.underlying3 w1) (trodAll_cons_mk (shut_int Try.underlying3 w2) (trodAll_cons_mk (Below.trod laidOut (by kernel_rfl) (of_decide_eq_true (by kernel_rfl)) k3 bel lt3) trodAll_mk0)))), rfl, bel.frame _, fun h => by cases h⟩
theorem over : Rows.cleanPlaysRow.holds Try.pinned (OpenSpec.ofChange Rows.cleanPlaysSpec) :=
  OpenClaim.holds_of_wide 5 Try.f5 rfl rfl rfl rfl rfl rfl rfl ⟨rfl, rfl, rfl, rfl, rfl⟩ rfl rfl rfl rfl rfl (by kernel_rfl) Try.func5 (by kernel_rfl)
    (of_decide_eq_true (by kernel_rfl)) (by unfold Func.isWrapper; first | (rw [if_pos (by decide +kernel)]; kernel_rfl) | (rw [if_neg (by decide +kernel)]; exact ⟨rfl, rfl⟩))
    (fun os started H enc _ => lifted os started H enc)
/-- The statement. -/
theorem proved : Rows.CleanPlaysSaid := over
#print axioms proved
end CleanPlays
end Go.Proofs.Ytpfhogbkbodfjab
