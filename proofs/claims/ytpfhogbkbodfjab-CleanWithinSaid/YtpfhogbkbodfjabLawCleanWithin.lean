/- The law CleanWithin returns true at every input. Conditions: none. -/
import Derived.Test.YtpfhogbkbodfjabClean
import Derived.Test.YtpfhogbkbodfjabArgs
namespace Go.Proofs.Ytpfhogbkbodfjab
open Go.RowKit Go.ChangeShapes Go.WideShapes Go.ChangeAt Go.Deep
set_option linter.unusedVariables false
set_option linter.unusedSimpArgs false
namespace CleanWithin
open Clean
theorem run_const (x : L) : x.run.2.b = x.b ∧ x.run.2.a = x.a ∧ x.run.2.c = x.c := by
  unfold L.run
  (repeat' split) <;> exact ⟨rfl, rfl, rfl⟩
theorem charge_run {x : L} (h : x.Ok) (ht : x.run.1 = true) : x.run.2.charge + 1 ≤ x.charge ∧ x.run.2.r + x.run.2.k = x.r + x.k + 1 := by
  obtain ⟨b1, b2, a1, a2, c1, c2, r1, r2, r3, k1, k2, s1, s2, e0, e1, e2, e3⟩ := h
  obtain ⟨b, a, c, r, k, st⟩ := x
  dsimp only at *
  unfold L.run at ht ⊢
  unfold L.charge
  dsimp only at *
  by_cases h0 : st = 0
  · subst h0
    obtain ⟨f1, f2, f3⟩ := e0 rfl
    rw [if_pos rfl] at ht ⊢
    by_cases h1 : r + 1 = a
    · rw [if_pos h1]
      constructor <;> dsimp only <;> (repeat' split) <;> omega
    · rw [if_neg h1]
      by_cases h2 : r + 1 = b
      · rw [if_pos h2]
        by_cases h3 : c = 0
        · rw [if_pos h3]; constructor <;> dsimp only <;> (repeat' split) <;> omega
        · rw [if_neg h3]; constructor <;> dsimp only <;> (repeat' split) <;> omega
      · rw [if_neg h2]; constructor <;> dsimp only <;> (repeat' split) <;> omega
  · rw [if_neg h0] at ht ⊢
    by_cases h1 : st = 1
    · subst h1
      obtain ⟨f1, f2⟩ := e1 rfl
      rw [if_pos rfl] at ht ⊢
      by_cases h2 : k + 1 = c
      · rw [if_pos h2]; constructor <;> dsimp only <;> (repeat' split) <;> omega
      · rw [if_neg h2]; constructor <;> dsimp only <;> (repeat' split) <;> omega
    · rw [if_neg h1] at ht
      cases ht
theorem run_end {x : L} (h : x.Ok) (ht : x.run.1 = false) : 2 ≤ x.st ∧ x.run.2 = x := by
  unfold L.run at ht ⊢
  by_cases h0 : x.st = 0
  · rw [if_pos h0] at ht; cases ht
  · by_cases h1 : x.st = 1
    · rw [if_neg h0, if_pos h1] at ht; cases ht
    · rw [if_neg h0, if_neg h1]
      exact ⟨by have := h.s1; omega, rfl⟩
theorem charge_abort {x : L} (h : x.Ok) : x.abort.2.charge ≤ x.charge ∧ x.abort.2.r = x.r ∧ x.abort.2.k = x.k ∧ x.abort.2.a = x.a := by
  obtain ⟨b1, b2, a1, a2, c1, c2, r1, r2, r3, k1, k2, s1, s2, e0, e1, e2, e3⟩ := h
  unfold L.abort L.charge
  by_cases h0 : x.st = 0
  · obtain ⟨f1, f2, f3⟩ := e0 h0
    rw [if_pos h0, if_pos h0]
    refine ⟨?_, rfl, rfl, rfl⟩
    dsimp only
    (repeat' split) <;> omega
  · rw [if_neg h0]
    exact ⟨Int.le_refl _, rfl, rfl, rfl⟩
theorem charge_nn {x : L} (h : x.Ok) : 0 ≤ x.charge := by have := L.left_le h; omega
theorem stage_two {x : L} (h : x.Ok) (hs : 2 ≤ x.st) : (x.st = 2 ∧ x.r = x.a) ∨ (x.st = 3 ∧ x.r < x.a) := by
  rcases show x.st = 2 ∨ x.st = 3 from by have := h.s2; omega with h2 | h3
  · exact .inl ⟨h2, h.e2 h2⟩
  · exact .inr ⟨h3, h.e3 h3⟩
/-- What holds at the head of each round. -/
structure Inv (w : World) (p : Nat) (a most n : Int) (x : L) (wr : World) : Prop where
  ok : x.Ok
  ha : x.a = a
  hn : n = x.r + x.k
  hm : n + x.charge ≤ most
  P : At wr p x
  B : Below w.heap.size w wr
  z : w.heap.size ≤ wr.heap.size
theorem Inv.num {w : World} {p : Nat} {a most n : Int} {x : L} {wr : World} (h : Inv w p a most n x wr) : 0 ≤ n ∧ n ≤ most ∧ n ≤ 2000 ∧ (0 ≤ x.r ∧ x.r ≤ 1000000) ∧ (0 ≤ x.k ∧ x.k ≤ 1000000) := by
  have := charge_nn h.ok
  have h1 := h.hn
  have h2 := h.hm
  obtain ⟨b1, b2, a1, a2, c1, c2, r1, r2, r3, k1, k2, s1, s2, e0, e1, e2, e3⟩ := h.ok
  omega
set_option maxHeartbeats 4000000 in
theorem walk_in (b a c at_ : Int) (w : World) (h1 : 1 ≤ b) (h2 : b ≤ 1000) (h3 : 1 ≤ a) (h4 : a ≤ 1000) (h5 : 0 ≤ c) (h6 : c ≤ 100) :
    Calls Try.prog 6 #[.int .i64 b, .int .i64 a, .int .i64 c, .int .i64 at_] w fun e w' => e = .returned (.bool true) ∧ Below w.heap.size w w' := by
  have hg : good b a c := by unfold good; omega
  go_enter Try.func6, Try.ntmps6
  go_wp2_with fail
  refine (awake_ok w).mono ?_
  rintro e wa ⟨rfl, ba⟩
  go_wp2_with fail
  refine (new_any b a c _ hg).mono ?_
  rintro e w1 ⟨p, rfl, hp, P1, k1⟩
  have b1 := below_keeps ba k1 ba.size (fun _ h => h.elim)
  have z1 : w.heap.size ≤ w1.heap.size := Nat.le_trans ba.size k1.size
  have hpB : w.heap.size ≤ p := Nat.le_trans ba.size hp
  clear k1 ba
  go_wp2_with fail
  refine (charge_any p _ _ (ok_new hg) P1).mono ?_
  rintro e w2 ⟨rfl, k2⟩
  have b2 := below_keeps b1 k2 z1 (fun _ h => h.elim)
  have z2 : w.heap.size ≤ w2.heap.size := Nat.le_trans z1 k2.size
  have P2 := P1.kept k2 (fun h => h)
  clear k2 b1 z1 P1
  obtain ⟨most, hmost⟩ : ∃ m, m = L.charge ⟨b, a, c, 0, 0, 0⟩ := ⟨_, rfl⟩
  rw [← hmost]
  have hI : Inv w p a most 0 ⟨b, a, c, 0, 0, 0⟩ w2 := ⟨ok_new hg, rfl, rfl, by rw [hmost]; omega, P2, b2, z2⟩
  have hmb : most ≤ 2000 := by rw [hmost]; simp [L.charge]; omega
  clear hmost hg P2 b2 z2
  go_wp2_with fail
  go_loopw [12] (fun i wr => ∃ (n : Int) (x : L), i = .int .i64 n ∧ Inv w p a most n x wr) (fun i _ => (most + 1 - intOf i).toNat)
  case atStart => exact ⟨0, _, rfl, hI⟩
  case round =>
    obtain ⟨n, x, rfl, I⟩ := hrel
    obtain ⟨hn0, hn1, hn2, hr, hk⟩ := I.num
    -- one round behind the abort, or without it
    by_cases hat : n = at_
    · subst hat
      go_wp2_with fail
      refine (abort_any p x _ I.P).mono ?_
      rintro e w3 ⟨rfl, P3, k3⟩
      have hca := charge_abort I.ok
      have I3 : Inv w p a most n x.abort.2 w3 := ⟨L.Ok.abort I.ok, by rw [hca.2.2.2]; exact I.ha, by rw [hca.2.1, hca.2.2.1]; exact I.hn, by have := I.hm; omega, P3, below_keeps I.B k3 I.z (fun i hi => by omega), Nat.le_trans I.z k3.size⟩
      obtain ⟨y, hy⟩ : ∃ y, y = x.abort.2 := ⟨_, rfl⟩
      rw [← hy] at I3
      clear hca P3 k3 hy I hr hk
      obtain ⟨hn0', hn1', hn2', hr, hk⟩ := I3.num
      obtain ⟨t, ht⟩ : ∃ t, y.run.1 = t := ⟨_, rfl⟩
      have HT := Lib.hid ht
      clear ht
      go_wp2_with fail
      refine (run_own p y w _ hr hk hpB I3.B I3.z I3.P t _ HT.out rfl).mono ?_
      rintro e w5 ⟨rfl, P5, B5, z5⟩
      cases t with
      | true =>
        have hcr := charge_run I3.ok HT.out
        have I5 : Inv w p a most (n + 1) y.run.2 w5 := ⟨L.Ok.run I3.ok, by rw [(run_const y).2.1]; exact I3.ha, by have := I3.hn; omega, by have := I3.hm; omega, P5, B5, z5⟩
        clear hcr
        go_wp2_with fail
        go_roundw
        case rel => exact ⟨n + 1, _, rfl, I5⟩
        case measure => simp [intOf]; omega
      | false =>
        obtain ⟨hs, hye⟩ := run_end I3.ok HT.out
        rw [hye] at P5
        have hst := stage_two I3.ok hs
        have HA := Lib.hid I3.ha
        have HN := Lib.hid I3.hn
        clear hye hs I3
        go_wp2_with fail
        refine (used_any p y _ P5).mono ?_
        rintro e w6 ⟨rfl, k6⟩
        have P6 := P5.kept k6 (fun h => h)
        have B6 := below_keeps B5 k6 z5 (fun _ h => h.elim)
        clear k6 P5 B5 z5
        obtain ⟨b', a', c', r', k', st'⟩ := y
        dsimp only at hst hr hk
        have ha' : a' = a := HA.out
        subst ha'
        have hn' : r' + k' = n := HN.out.symm
        have HNN := Lib.hid hn'
        clear hn' HN HA HT
        rcases hst with ⟨rfl, rfl⟩ | ⟨rfl, hra⟩
        · go_wp2_with fail
          refine (stage_any p _ _ P6).mono ?_
          rintro e w7 ⟨rfl, rfl⟩
          go_wp2_with fail
          refine (stage_any p _ _ P6).mono ?_
          rintro e w7 ⟨rfl, rfl⟩
          go_wp2_with fail
          go_ret
          exact ⟨by first | (simp; done) | (simp; omega), B6⟩
        · go_wp2_with fail
          refine (stage_any p _ _ P6).mono ?_
          rintro e w7 ⟨rfl, rfl⟩
          go_wp2_with fail
          refine (stage_any p _ _ P6).mono ?_
          rintro e w7 ⟨rfl, rfl⟩
          go_wp2_with fail
          go_ret
          exact ⟨by first | (simp; done) | (simp; omega), B6⟩
    · have hatb : (n == at_) = false := by simpa using hat
      obtain ⟨y, hy⟩ : ∃ y, y = x := ⟨_, rfl⟩
      rw [← hy] at I hr hk
      have I3 := I
      clear I hy hat
      obtain ⟨t, ht⟩ : ∃ t, y.run.1 = t := ⟨_, rfl⟩
      have HT := Lib.hid ht
      clear ht
      go_wp2_with fail
      refine (run_own p y w _ hr hk hpB I3.B I3.z I3.P t _ HT.out rfl).mono ?_
      rintro e w5 ⟨rfl, P5, B5, z5⟩
      cases t with
      | true =>
        have hcr := charge_run I3.ok HT.out
        have I5 : Inv w p a most (n + 1) y.run.2 w5 := ⟨L.Ok.run I3.ok, by rw [(run_const y).2.1]; exact I3.ha, by have := I3.hn; omega, by have := I3.hm; omega, P5, B5, z5⟩
        clear hcr
        go_wp2_with fail
        go_roundw
        case rel => exact ⟨n + 1, _, rfl, I5⟩
        case measure => simp [intOf]; omega
      | false =>
        obtain ⟨hs, hye⟩ := run_end I3.ok HT.out
        rw [hye] at P5
        have hst := stage_two I3.ok hs
        have HA := Lib.hid I3.ha
        have HN := Lib.hid I3.hn
        clear hye hs I3
        go_wp2_with fail
        refine (used_any p y _ P5).mono ?_
        rintro e w6 ⟨rfl, k6⟩
        have P6 := P5.kept k6 (fun h => h)
        have B6 := below_keeps B5 k6 z5 (fun _ h => h.elim)
        clear k6 P5 B5 z5
        obtain ⟨b', a', c', r', k', st'⟩ := y
        dsimp only at hst hr hk
        have ha' : a' = a := HA.out
        subst ha'
        have hn' : r' + k' = n := HN.out.symm
        have HNN := Lib.hid hn'
        clear hn' HN HA HT
        rcases hst with ⟨rfl, rfl⟩ | ⟨rfl, hra⟩
        · go_wp2_with fail
          refine (stage_any p _ _ P6).mono ?_
          rintro e w7 ⟨rfl, rfl⟩
          go_wp2_with fail
          refine (stage_any p _ _ P6).mono ?_
          rintro e w7 ⟨rfl, rfl⟩
          go_wp2_with fail
          go_ret
          exact ⟨by first | (simp; done) | (simp; omega), B6⟩
        · go_wp2_with fail
          refine (stage_any p _ _ P6).mono ?_
          rintro e w7 ⟨rfl, rfl⟩
          go_wp2_with fail
          refine (stage_any p _ _ P6).mono ?_
          rintro e w7 ⟨rfl, rfl⟩
          go_wp2_with fail
          go_ret
          exact ⟨by first | (simp; done) | (simp; omega), B6⟩
set_option maxHeartbeats 1000000 in
theorem walk_out (b a c at_ : Int) (w : World) (h : ¬ (1 ≤ b ∧ b ≤ 1000 ∧ 1 ≤ a ∧ a ≤ 1000 ∧ 0 ≤ c ∧ c ≤ 100)) :
    Calls Try.prog 6 #[.int .i64 b, .int .i64 a, .int .i64 c, .int .i64 at_] w fun e w' => e = .returned (.bool true) ∧ Below w.heap.size w w' := by
  go_enter Try.func6, Try.ntmps6
  go_wp2_with fail
  refine (awake_ok w).mono ?_
  rintro e wa ⟨rfl, ba⟩
  go_wp2_with fail
  all_goals (go_ret; exact ⟨rfl, ba⟩)
theorem walk (b a c at_ : Int) (w : World) (wb : (Lit.int .i64 b).wf = true) (wa : (Lit.int .i64 a).wf = true) (wc : (Lit.int .i64 c).wf = true) (wt : (Lit.int .i64 at_).wf = true) :
    Calls Try.prog 6 #[.int .i64 b, .int .i64 a, .int .i64 c, .int .i64 at_] w fun e w' => e = .returned (.bool true) ∧ Below w.heap.size w w' := by
  by_cases h : 1 ≤ b ∧ b ≤ 1000 ∧ 1 ≤ a ∧ a ≤ 1000 ∧ 0 ≤ c ∧ c ≤ 100
  · exact walk_in b a c at_ w h.1 h.2.1 h.2.2.1 h.2.2.2.1 h.2.2.2.2.1 h.2.2.2.2.2
  · exact walk_out b a c at_ w h
theorem own : ownKnob Try.prog.godebug = none := by kernel_rfl
set_option maxRecDepth 100000 in
theorem lifted (os : Os) (started : os.Started) (H : Type) (enc : TypeId × Value → H) :
    ReturnsInHanded {} Try.checked os 6 .any (Rows.cleanWithinSpec.pre6 enc Try.prog Try.f6 Rows.cleanWithinRow.domain false) (Rows.cleanWithinSpec.post enc Try.prog Try.f6 false true false false) := by
  refine returnsInHanded_of_change (C := Try.checked) own started (by kernel_rfl) Try.func6
    (ChangeSpec.witness6 (enc := enc) (C := Try.checked) false ⟨#[], #[.int .i64 0, .int .i64 0, .int .i64 0, .int .i64 0], []⟩ 8 (by kernel_rfl) (by kernel_rfl) (by kernel_rfl) (by kernel_rfl)) ?_
  intro W base args ds gs before hval0 hW hcnd _
  have hval : ∀ (j : Nat) t v, Try.f6.params[j]? = some t → args[j]? = some v → Value.okWide Try.prog W .any base t v := hval0
  have hW' := hW
  obtain ⟨p, q, hA0, hV, rfl, hfz, hnd⟩ := hW
  have hA : DataW.TrodAll enc Try.prog W 0 (fun _ => true) true Try.f6.params.toList args.toList ds p := hA0
  rw [Try.params6] at hA hval
  obtain ⟨v0, vs0, d0, ds0, p0, q0, hargs, rfl, rfl, h0, r0⟩ := trodAll_cons hA
  obtain ⟨v1, vs1, d1, ds1, p1, q1, rfl, rfl, rfl, h1, r1⟩ := trodAll_cons r0
  obtain ⟨v2, vs2, d2, ds2, p2, q2, rfl, rfl, rfl, h2, r2⟩ := trodAll_cons r1
  obtain ⟨v3, vs3, d3, ds3, p3, q3, rfl, rfl, rfl, h3, r3⟩ := trodAll_cons r2
  obtain ⟨rfl, rfl, rfl⟩ := trodAll_nil r3
  obtain rfl : args = #[v0, v1, v2, v3] := by cases args; simp_all
  obtain ⟨rfl, rfl⟩ := trodVars_none hV
  obtain ⟨a0, rfl, rfl, rfl, w0⟩ := open_int Try.underlying3 (hval 0 3 v0 rfl rfl) h0
  obtain ⟨a1, rfl, rfl, rfl, w1⟩ := open_int Try.underlying3 (hval 1 3 v1 rfl rfl) h1
  obtain ⟨a2, rfl, rfl, rfl, w2⟩ := open_int Try.underlying3 (hval 2 3 v2 rfl rfl) h2
  obtain ⟨a3, rfl, rfl, rfl, w3⟩ := open_int Try.underlying3 (hval 3 3 v3 rfl rfl) h3
  clear hA0 hval0
  refine (walk a0 a1 a2 a3 W w0 w1 w2 w3).mono fun e W' ⟨he, bel⟩ => ?_
  subst he
  exact ⟨_, rfl, _, _, _, [], _, [], hW', trodAll_mk1 (shut_bool Try.underlying4 _), (trodAll_cons_mk (shut_int Try.underlying3 w0) (trodAll_cons_mk (shut_int Try.underlying3 w1) (trodAll_cons_mk (shut_int Try.underlying3 w2) (trodAll_cons_mk (shut_int Try.underlying3 w3) trodAll_mk0)))), rfl, bel.frame _, fun h => by cases h⟩
theorem over : Rows.cleanWithinRow.holds Try.pinned (OpenSpec.ofChange Rows.cleanWithinSpec) :=
  OpenClaim.holds_of_wide 6 Try.f6 rfl rfl rfl rfl rfl rfl rfl ⟨rfl, rfl, rfl, rfl, rfl⟩ rfl rfl rfl rfl rfl (by kernel_rfl) Try.func6 (by kernel_rfl)
    (of_decide_eq_true (by kernel_rfl)) (by unfold Func.isWrapper; first | (rw [if_pos (by decide +kernel)]; kernel_rfl) | (rw [if_neg (by decide +kernel)]; exact ⟨rfl, rfl⟩))
    (fun os started H enc _ => lifted os started H enc)
/-- The statement. -/
theorem proved : Rows.CleanWithinSaid := over
#print axioms proved
end CleanWithin
end Go.Proofs.Ytpfhogbkbodfjab
