/- Package job: which jobs are good, what they take; conditions: the library's tables as its text lays them. -/
import Derived.Test.YtbgiegecfapmlaaGreatDoorName
import Derived.Test.YtbgiegecfapmlaaGreatDoorArgs
import Derived.Test.YtbgiegecfapmlaaGreatDoorRobPlain
import Derived.Deep.DeepCutAuto
namespace Go.Proofs.YtbgiegecfapmlaaGreatDoor
open Go.RowKit
set_option linter.unusedVariables false
set_option linter.unusedSimpArgs false
namespace Job
open Rob (J)
def jc (j : J) : List Value := [.string j.nm, .int .i64 j.rel, .int .i64 j.dl, .int .i64 j.bud, .int .i64 j.act, .int .i64 j.val, .int .i64 j.cln, .bool j.hard]
def jv (j : J) : Value := .agg #[.string j.nm, .int .i64 j.rel, .int .i64 j.dl, .int .i64 j.bud, .int .i64 j.act, .int .i64 j.val, .int .i64 j.cln, .bool j.hard]
def inN (v lo hi : Int) : Bool := decide (lo ≤ v) && decide (v ≤ hi)
theorem in_is (v lo hi : Int) (w : World) :
    Calls Tryz.prog 63 #[.int .i64 v, .int .i64 lo, .int .i64 hi] w fun e w' => e = .returned (.bool (inN v lo hi)) ∧ w' = w := by
  go_enter Tryz.func63, Tryz.ntmps63
  by_cases h1 : lo ≤ v
  · by_cases h2 : v ≤ hi
    · have hd : inN v lo hi = true := by unfold inN; simp; omega
      go_wp2_with fail
      go_ret
      exact ⟨by first | rfl | (rw [hd]; rfl), rfl⟩
    · have hd : inN v lo hi = false := by unfold inN; simp; omega
      go_wp2_with fail
      go_ret
      exact ⟨by first | rfl | (rw [hd]; rfl), rfl⟩
  · have hd : inN v lo hi = false := by unfold inN; simp; omega
    go_wp2_with fail
    go_ret
    exact ⟨by first | rfl | (rw [hd]; rfl), rfl⟩
def good1 (j : J) : Bool := inN j.rel 0 10000 && decide (j.rel < j.dl) && decide (j.dl ≤ 10000)
def good2 (j : J) : Bool := inN j.bud 1 1000 && inN j.act 1 1000 && inN j.cln 0 100
def good (j : J) : Bool := Nm.good j.nm && good1 j && good2 j && inN j.val 0 1000000
theorem good_ok {j : J} (h : good j = true) : j.Ok := by
  unfold good good1 good2 inN at h
  simp only [Bool.and_eq_true, decide_eq_true_eq] at h
  obtain ⟨⟨⟨_, ⟨⟨⟨a1, a2⟩, a3⟩, a4⟩⟩, ⟨⟨⟨b1, b2⟩, ⟨b3, b4⟩⟩, ⟨b5, b6⟩⟩⟩, ⟨c1, c2⟩⟩ := h
  exact ⟨a1, a3, a4, ⟨b1, b2⟩, ⟨b3, b4⟩, ⟨c1, c2⟩, ⟨b5, b6⟩⟩
set_option maxRecDepth 100000 in
set_option maxHeartbeats 4000000 in
theorem good_is (j : J) (w : World) (T : Tabs w) (hs : j.nm.size < 4611686018427387904) :
    Calls Tryz.prog 25 #[jv j] w fun e w' => e = .returned (.bool (good j)) ∧ Below w.heap.size w w' := by
  obtain ⟨b0, h0⟩ : ∃ b, Nm.good j.nm = b := ⟨_, rfl⟩
  obtain ⟨b1, h1⟩ : ∃ b, good1 j = b := ⟨_, rfl⟩
  obtain ⟨b2, h2⟩ : ∃ b, good2 j = b := ⟨_, rfl⟩
  obtain ⟨b3, h3⟩ : ∃ b, inN j.val 0 1000000 = b := ⟨_, rfl⟩
  have hg : good j = (b0 && b1 && b2 && b3) := by unfold good; rw [h0, h1, h2, h3]
  rw [hg]
  have X := Blk.new w 36 (jc j)
  have B := (Below.refl w.heap.size w).alloc (Nat.le_refl _) (.cells (jc j).toArray 36)
  have C := fun W (h : Tabs W) => Nm.good_is j.nm W h hs
  rw [h0] at C
  have HC := Lib.hid C
  have H3 := Lib.hid h3
  obtain ⟨nm, rel, dl, bud, act, val, cln, hard⟩ := j
  unfold good1 at h1
  unfold good2 at h2
  unfold jv
  have x0 := X.cellAt (i := 0) rfl
  have x1 := X.cellAt (i := 1) rfl
  have x2 := X.cellAt (i := 2) rfl
  have x3 := X.cellAt (i := 3) rfl
  have x4 := X.cellAt (i := 4) rfl
  have x5 := X.cellAt (i := 5) rfl
  have x6 := X.cellAt (i := 6) rfl
  unfold jc at X B x0 x1 x2 x3 x4 x5 x6
  have HT := Lib.hid (T.below B)
  dsimp only at x0 x1 x2 x3 x4 x5 x6 h1 h2 HC H3
  have H1 := Lib.hid h1
  have H2 := Lib.hid h2
  clear C T hg h0 h1 h2 h3 hs X
  go_enter Tryz.func25, Tryz.ntmps25
  go_upto_region 1 with fail
  generalize w.alloc (.cells #[.string nm, .int .i64 rel, .int .i64 dl, .int .i64 bud, .int .i64 act, .int .i64 val, .int .i64 cln, .bool hard] 36) = w1 at *
  have hlt : w.heap.size < w1.heap.size := World.block_lt_of_cell? w1 _ x0
  go_cut [3] (fun v wx => v = .bool b1 ∧ wx = w1)
  case first =>
    cases c1 : inN rel 0 10000 with
    | false =>
      have e : b1 = false := by rw [← H1.out, c1]; rfl
      clear H1
      subst e
      go_wp2_with (go_at_call 63; refine (in_is _ _ _ _).mono ?_; rintro e w2 ⟨rfl, rfl⟩)
      go_meet
      exact ⟨rfl, rfl⟩
    | true =>
      by_cases p1 : rel < dl
      · by_cases p2 : dl ≤ 10000
        · have e : b1 = true := by rw [← H1.out, c1]; simp; omega
          clear H1
          subst e
          go_wp2_with (go_at_call 63; refine (in_is _ _ _ _).mono ?_; rintro e w2 ⟨rfl, rfl⟩)
          go_meet
          first | exact ⟨rfl, rfl⟩ | exact ⟨by simp; omega, rfl⟩
        · have e : b1 = false := by rw [← H1.out, c1]; simp; omega
          clear H1
          subst e
          go_wp2_with (go_at_call 63; refine (in_is _ _ _ _).mono ?_; rintro e w2 ⟨rfl, rfl⟩)
          go_meet
          first | exact ⟨rfl, rfl⟩ | exact ⟨by simp; omega, rfl⟩
      · have e : b1 = false := by rw [← H1.out, c1]; simp; omega
        clear H1
        subst e
        go_wp2_with (go_at_call 63; refine (in_is _ _ _ _).mono ?_; rintro e w2 ⟨rfl, rfl⟩)
        go_meet
        exact ⟨rfl, rfl⟩
  case rest =>
    obtain ⟨rfl, rfl⟩ := hcut
    clear H1
    go_upto_region 2 with fail
    go_cut [3, 4] (fun u v wx => u = .bool b1 ∧ v = .bool b2 ∧ wx = wc)
    case first =>
      cases c2 : inN bud 1 1000 with
      | false =>
        have e : b2 = false := by rw [← H2.out]; simp [*]
        clear H2
        subst e
        go_wp2_with (go_at_call 63; refine (in_is _ _ _ _).mono ?_; rintro e w2 ⟨rfl, rfl⟩)
        go_meet
        exact ⟨rfl, rfl, rfl⟩
      | true =>
        cases c3 : inN act 1 1000 with
        | false =>
          have e : b2 = false := by rw [← H2.out]; simp [*]
          clear H2
          subst e
          go_wp2_with (go_at_call 63; refine (in_is _ _ _ _).mono ?_; rintro e w2 ⟨rfl, rfl⟩)
          go_meet
          exact ⟨rfl, rfl, rfl⟩
        | true =>
          cases c4 : inN cln 0 100 with
          | false =>
            have e : b2 = false := by rw [← H2.out]; simp [*]
            clear H2
            subst e
            go_wp2_with (go_at_call 63; refine (in_is _ _ _ _).mono ?_; rintro e w2 ⟨rfl, rfl⟩)
            go_meet
            exact ⟨rfl, rfl, rfl⟩
          | true =>
            have e : b2 = true := by rw [← H2.out]; simp [*]
            clear H2
            subst e
            go_wp2_with (go_at_call 63; refine (in_is _ _ _ _).mono ?_; rintro e w2 ⟨rfl, rfl⟩)
            go_meet
            exact ⟨rfl, rfl, rfl⟩
    case rest =>
      obtain ⟨rfl, rfl, rfl⟩ := hcut
      clear H2
      go_upto_region 3 with fail
      go_wp2_with fail
      refine (HC.out wc HT.out).mono ?_
      rintro e w2 ⟨rfl, hb⟩
      have y5 := (hb.cell (World.block_lt_of_cell? wc _ x5)).trans x5
      have B2 := B.trans (hb.mono (by omega))
      clear x0 x1 x2 x3 x4 x5 x6 HC HT hb B hlt
      cases b0 with
      | false =>
        go_wp2_with fail
        go_ret
        exact ⟨rfl, B2⟩
      | true =>
        cases b1 with
        | false =>
          go_wp2_with fail
          go_ret
          exact ⟨rfl, B2⟩
        | true =>
          cases b2 with
          | false =>
            go_wp2_with fail
            go_ret
            exact ⟨rfl, B2⟩
          | true =>
            have h3 := H3.out
            go_wp2_with (go_at_call 63; refine (in_is _ _ _ _).mono ?_; rintro e w3 ⟨rfl, rfl⟩)
            go_ret
            exact ⟨rfl, B2⟩
end Job
end Go.Proofs.YtbgiegecfapmlaaGreatDoor
