/- The law CleanLeft returns true at every input. Conditions: none. -/
import Derived.Test.YtpfhogbkbodfjabClean
import Derived.Test.YtpfhogbkbodfjabArgs
namespace Go.Proofs.Ytpfhogbkbodfjab
open Go.RowKit Go.ChangeShapes Go.WideShapes Go.ChangeAt Go.Deep
set_option linter.unusedVariables false
set_option linter.unusedSimpArgs false
namespace CleanLeft
open Clean
theorem run_const (x : L) : x.run.2.b = x.b ∧ x.run.2.a = x.a ∧ x.run.2.c = x.c := by
  unfold L.run
  (repeat' split) <;> exact ⟨rfl, rfl, rfl⟩
theorem run_broke (x : L) (h : (x.st = 1 ∨ x.st = 3) → x.r = x.b) : (x.run.2.st = 1 ∨ x.run.2.st = 3) → x.run.2.r = x.run.2.b := by
  unfold L.run
  (repeat' split) <;> dsimp only <;> omega
set_option maxHeartbeats 2000000 in
theorem walk_in (b a c : Int) (w : World) (h1 : 1 ≤ b) (h2 : b ≤ 200) (h3 : 1 ≤ a) (h4 : a ≤ 1000) (h5 : 0 ≤ c) (h6 : c ≤ 100) :
    Calls Try.prog 3 #[.int .i64 b, .int .i64 a, .int .i64 c] w fun e w' => e = .returned (.bool true) ∧ Below w.heap.size w w' := by
  have hg : good b a c := by unfold good; omega
  obtain ⟨N, hN⟩ : ∃ N : Int, N = L.left ⟨b, a, c, 0, 0, 0⟩ := ⟨_, rfl⟩
  have HN := Lib.hid hN
  have hN2 : N = if a ≤ b then a else b + c := by rw [hN]; simp [L.left]
  have HN2 := Lib.hid hN2
  clear hN hN2
  have HG := Lib.hid hg
  clear hg
  by_cases hab : a ≤ b
  all_goals
    go_enter Try.func3, Try.ntmps3
    go_wp2_with fail
    refine (awake_ok w).mono ?_
    rintro e wa ⟨rfl, ba⟩
    go_wp2_with fail
    refine (new_any b a c _ HG.out).mono ?_
    rintro e w1 ⟨p, rfl, hp, P1, k1⟩
    have b1 := below_keeps ba k1 ba.size (fun _ h => h.elim)
    have z1 : w.heap.size ≤ w1.heap.size := Nat.le_trans ba.size k1.size
    have hpB : w.heap.size ≤ p := Nat.le_trans ba.size hp
    clear k1 ba
    go_wp2_with fail
    go_loopw [10] (fun i wr => ∃ (n : Int) (x : L), i = .int .i64 n ∧ x.left = n ∧ x.Ok ∧ ((x.st = 1 ∨ x.st = 3) → x.r = x.b) ∧ x.b = b ∧ x.a = a ∧ At wr p x ∧ Below w.heap.size w wr ∧ w.heap.size ≤ wr.heap.size) (fun i _ => (intOf i).toNat)
    case atStart => exact ⟨_, ⟨b, a, c, 0, 0, 0⟩, rfl, (by simp [L.left]; omega), ok_new HG.out, (by dsimp only; omega), rfl, rfl, P1, b1, z1⟩
    case round =>
      obtain ⟨n, x, rfl, hn, ok, hbr, hxb, hxa, HP, HB, hz⟩ := hrel
      have hl := L.left_le ok
      rw [hn] at hl
      obtain ⟨hl0, hl1, hl2⟩ := hl
      have hlr := L.left_run ok
      have hrc := run_const x
      have hbr' := run_broke x hbr
      have hxb' := hrc.1.trans hxb
      have hxa' := hrc.2.1.trans hxa
      have hr := And.intro ok.r1 (show x.r ≤ 1000000 by have := ok.r2; have := ok.b2; omega)
      have hk := And.intro ok.k1 (show x.k ≤ 1000000 by have := ok.k2; have := ok.c2; omega)
      by_cases hpos : 0 < n
      · have ht : x.run.1 = true := by
          cases hrt : x.run.1 with
          | true => rfl
          | false => have := (hlr.2 hrt).1; omega
        have HLE := Lib.hid (hlr.1 ht).1
        have HX := Lib.hid hn
        have HT := Lib.hid ht
        have HXB := Lib.hid hxb'
        have HXA := Lib.hid hxa'
        have HBR := Lib.hid hbr'
        clear hn ht hlr hrc hbr' hbr hxb hxa hxb' hxa'
        go_wp2_with fail
        refine (left_any p x _ ok HP).mono ?_
        rintro e w2 ⟨rfl, k2⟩
        have HP2 := HP.kept k2 (fun h => h)
        have HB2 := below_keeps HB k2 hz (fun _ h => h.elim)
        have hz2 := Nat.le_trans hz k2.size
        clear k2 HP HB hz
        rw [HX.out]
        go_wp2_with fail
        refine (left_any p x _ ok HP2).mono ?_
        rintro e w3 ⟨rfl, k3⟩
        have HP3 := HP2.kept k3 (fun h => h)
        have HB3 := below_keeps HB2 k3 hz2 (fun _ h => h.elim)
        have hz3 := Nat.le_trans hz2 k3.size
        clear k3 HP2 HB2 hz2
        rw [HX.out]
        go_wp2_with fail
        refine (charge_any p x _ ok HP3).mono ?_
        rintro e w4 ⟨rfl, k4⟩
        have HP4 := HP3.kept k4 (fun h => h)
        have HB4 := below_keeps HB3 k4 hz3 (fun _ h => h.elim)
        have hz4 := Nat.le_trans hz3 k4.size
        clear k4 HP3 HB3 hz3
        obtain ⟨C, hC⟩ : ∃ C, x.charge = C := ⟨_, rfl⟩
        rw [hC] at hl2 ⊢
        clear hC
        go_wp2_with fail
        refine (run_own p x w _ hr hk hpB HB4 hz4 HP4 true _ HT.out rfl).mono ?_
        rintro e w5 ⟨rfl, HP5, HB5, hz5⟩
        go_wp2_with fail
        go_roundw
        case rel => exact ⟨n - 1, _, rfl, (by rw [HLE.out, HX.out]), L.Ok.run ok, HBR.out, HXB.out, HXA.out, HP5, HB5, hz5⟩
        case measure => simp [intOf]; omega
      · have hn0 : n = 0 := by omega
        subst hn0
        have ht : x.run.1 = false := by
          cases hrt : x.run.1 with
          | false => rfl
          | true => have := (hlr.1 hrt).2; omega
        have hst : x.st = 2 ∧ a ≤ b ∨ x.st = 3 ∧ b < a := by
          obtain ⟨b1, b2, a1, a2, c1, c2, r1, r2, r3, k1, k2, s1, s2, e0, e1, e2, e3⟩ := ok
          unfold L.left at hn
          by_cases g0 : x.st = 0
          · rw [if_pos g0] at hn
            have := e0 g0
            split at hn <;> omega
          · rw [if_neg g0] at hn
            by_cases g1 : x.st = 1
            · rw [if_pos g1] at hn
              have := e1 g1
              omega
            · by_cases g2 : x.st = 2
              · have := e2 g2
                exact .inl ⟨g2, by omega⟩
              · have g3 : x.st = 3 := by omega
                have := e3 g3
                have := hbr (.inr g3)
                exact .inr ⟨g3, by omega⟩
        have HX := Lib.hid hn
        have HT := Lib.hid ht
        have HY := Lib.hid (hlr.2 ht).2
        have HST := Lib.hid hst
        clear hn ht hlr hrc hbr' hbr hxb hxa hxb' hxa' hst
        go_wp2_with fail
        refine (left_any p x _ ok HP).mono ?_
        rintro e w2 ⟨rfl, k2⟩
        have HP2 := HP.kept k2 (fun h => h)
        have HB2 := below_keeps HB k2 hz (fun _ h => h.elim)
        have hz2 := Nat.le_trans hz k2.size
        clear k2 HP HB hz
        rw [HX.out]
        go_wp2_with fail
        refine (run_own p x w _ hr hk hpB HB2 hz2 HP2 false x HT.out HY.out).mono ?_
        rintro e w5 ⟨rfl, HP5, HB5, hz5⟩
        go_wp2_with fail
        refine (stage_any p x _ HP5).mono ?_
        rintro e w6 ⟨rfl, rfl⟩
        rcases HST.out with ⟨hs, hb⟩ | ⟨hs, hb⟩
        · rw [hs]
          clear hs
          first
            | (exfalso; omega)
            | (go_wp2_with fail
               go_ret
               exact ⟨by first | (simp; done) | (simp; omega), HB5⟩)
        · rw [hs]
          clear hs
          first
            | (exfalso; omega)
            | (go_wp2_with fail
               go_ret
               exact ⟨by first | (simp; done) | (simp; omega), HB5⟩)
set_option maxHeartbeats 1000000 in
theorem walk_out (b a c : Int) (w : World) (h : ¬ (1 ≤ b ∧ b ≤ 200 ∧ 1 ≤ a ∧ a ≤ 1000 ∧ 0 ≤ c ∧ c ≤ 100)) :
    Calls Try.prog 3 #[.int .i64 b, .int .i64 a, .int .i64 c] w fun e w' => e = .returned (.bool true) ∧ Below w.heap.size w w' := by
  go_enter Try.func3, Try.ntmps3
  go_wp2_with fail
  refine (awake_ok w).mono ?_
  rintro e wa ⟨rfl, ba⟩
  go_wp2_with fail
  all_goals (go_ret; exact ⟨rfl, ba⟩)
theorem walk (b a c : Int) (w : World) (wb : (Lit.int .i64 b).wf = true) (wa : (Lit.int .i64 a).wf = true) (wc : (Lit.int .i64 c).wf = true) :
    Calls Try.prog 3 #[.int .i64 b, .int .i64 a, .int .i64 c] w fun e w' => e = .returned (.bool true) ∧ Below w.heap.size w w' := by
  by_cases h : 1 ≤ b ∧ b ≤ 200 ∧ 1 ≤ a ∧ a ≤ 1000 ∧ 0 ≤ c ∧ c ≤ 100
  · exact walk_in b a c w h.1 h.2.1 h.2.2.1 h.2.2.2.1 h.2.2.2.2.1 h.2.2.2.2.2
  · exact walk_out b a c w h
theorem own : ownKnob Try.prog.godebug = none := by kernel_rfl
set_option maxRecDepth 100000 in
theorem lifted (os : Os) (started : os.Started) (H : Type) (enc : TypeId × Value → H) :
    ReturnsInHanded {} Try.checked os 3 .any (Rows.cleanLeftSpec.pre6 enc Try.prog Try.f3 Rows.cleanLeftRow.domain false) (Rows.cleanLeftSpec.post enc Try.prog Try.f3 false true false false) := by
  refine returnsInHanded_of_change (C := Try.checked) own started (by kernel_rfl) Try.func3
    (ChangeSpec.witness6 (enc := enc) (C := Try.checked) false ⟨#[], #[.int .i64 0, .int .i64 0, .int .i64 0], []⟩ 8 (by kernel_rfl) (by kernel_rfl) (by kernel_rfl) (by kernel_rfl)) ?_
  intro W base args ds gs before hval0 hW hcnd _
  have hval : ∀ (j : Nat) t v, Try.f3.params[j]? = some t → args[j]? = some v → Value.okWide Try.prog W .any base t v := hval0
  have hW' := hW
  obtain ⟨p, q, hA0, hV, rfl, hfz, hnd⟩ := hW
  have hA : DataW.TrodAll enc Try.prog W 0 (fun _ => true) true Try.f3.params.toList args.toList ds p := hA0
  rw [Try.params3] at hA hval
  obtain ⟨v0, vs0, d0, ds0, p0, q0, hargs, rfl, rfl, h0, r0⟩ := trodAll_cons hA
  obtain ⟨v1, vs1, d1, ds1, p1, q1, rfl, rfl, rfl, h1, r1⟩ := trodAll_cons r0
  obtain ⟨v2, vs2, d2, ds2, p2, q2, rfl, rfl, rfl, h2, r2⟩ := trodAll_cons r1
  obtain ⟨rfl, rfl, rfl⟩ := trodAll_nil r2
  obtain rfl : args = #[v0, v1, v2] := by cases args; simp_all
  obtain ⟨rfl, rfl⟩ := trodVars_none hV
  obtain ⟨a0, rfl, rfl, rfl, w0⟩ := open_int Try.underlying3 (hval 0 3 v0 rfl rfl) h0
  obtain ⟨a1, rfl, rfl, rfl, w1⟩ := open_int Try.underlying3 (hval 1 3 v1 rfl rfl) h1
  obtain ⟨a2, rfl, rfl, rfl, w2⟩ := open_int Try.underlying3 (hval 2 3 v2 rfl rfl) h2
  clear hA0 hval0
  refine (walk a0 a1 a2 W w0 w1 w2).mono fun e W' ⟨he, bel⟩ => ?_
  subst he
  exact ⟨_, rfl, _, _, _, [], _, [], hW', trodAll_mk1 (shut_bool Try.underlying4 _), (trodAll_cons_mk (shut_int Try.underlying3 w0) (trodAll_cons_mk (shut_int Try.underlying3 w1) (trodAll_cons_mk (shut_int Try.underlying3 w2) trodAll_mk0))), rfl, bel.frame _, fun h => by cases h⟩
theorem over : Rows.cleanLeftRow.holds Try.pinned (OpenSpec.ofChange Rows.cleanLeftSpec) :=
  OpenClaim.holds_of_wide 3 Try.f3 rfl rfl rfl rfl rfl rfl rfl ⟨rfl, rfl, rfl, rfl, rfl⟩ rfl rfl rfl rfl rfl (by kernel_rfl) Try.func3 (by kernel_rfl)
    (of_decide_eq_true (by kernel_rfl)) (by unfold Func.isWrapper; first | (rw [if_pos (by decide +kernel)]; kernel_rfl) | (rw [if_neg (by decide +kernel)]; exact ⟨rfl, rfl⟩))
    (fun os started H enc _ => lifted os started H enc)
/-- The statement. -/
theorem proved : Rows.CleanLeftSaid := over
#print axioms proved
end CleanLeft
end Go.Proofs.Ytpfhogbkbodfjab
