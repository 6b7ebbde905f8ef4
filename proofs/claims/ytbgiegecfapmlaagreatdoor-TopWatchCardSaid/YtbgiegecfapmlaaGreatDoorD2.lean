/- packages num and surd: CmpMul, Sign, Above, as far as that they end; conditions: none. package surd: Sign, Above at the root of 2 / 1, as far as that they end; conditions: values within bounds. package dover: decide, as far as that it sheds one at least; conditions: good jobs. package dover: ring, as far as that it sheds one at least where it answers true; conditions: good jobs, the library's tables as its text lays them. package dover: run, one tick; conditions: good jobs, the library's tables as its text lays them. The sort of places by their jobs' deadlines, as job.ByDeadline asks it; conditions: at most nineteen jobs. job.ByDeadline; conditions: at most a dozen jobs. dover.Run, whole, at the rule 2 / 1, as far as that it ends; conditions: good jobs, at most a dozen, the library's tables as its text lays them. -/
import Derived.Test.YtbgiegecfapmlaaGreatDoorShelf
import Derived.Test.YtbgiegecfapmlaaGreatDoorBase
import Derived.Test.YtbgiegecfapmlaaGreatDoorD1
import Derived.Test.YtbgiegecfapmlaaGreatDoorRunArr
import Derived.Test.YtbgiegecfapmlaaGreatDoorRunSort
import Derived.Test.YtbgiegecfapmlaaGreatDoorRunAll
import Derived.Test.YtbgiegecfapmlaaGreatDoorJobs2
namespace Go.Proofs.YtbgiegecfapmlaaGreatDoor
open Go.RowKit
set_option linter.unusedVariables false
set_option linter.unusedSimpArgs false
namespace Sd
theorem wrapU (x : Int) : ∃ n : Nat, IntKind.u64.wrap x = (n : Int) ∧ n < 18446744073709551616 := by
  rw [IntKind.wrap_u64]
  exact ⟨(x % 18446744073709551616).toNat, by omega, by omega⟩
theorem nside_is (x : Int) (w : World) : Calls Tryz.prog 185 #[.int .i64 x] w fun e w' => (∃ n : Nat, e = .returned (.int .u64 (n : Int)) ∧ n < 18446744073709551616) ∧ w' = w := by
  by_cases h : x < 0
  · have q : decide (x < 0) = true := decide_eq_true h
    go_enter Tryz.func185, Tryz.ntmps185
    go_wp2_with fail
    go_ret
    obtain ⟨n, h1, h2⟩ := wrapU (-(IntKind.u64.wrap x))
    exact ⟨⟨n, by rw [← h1]; rfl, h2⟩, rfl⟩
  · have q : decide (x < 0) = false := decide_eq_false h
    go_enter Tryz.func185, Tryz.ntmps185
    go_wp2_with fail
    go_ret
    obtain ⟨n, h1, h2⟩ := wrapU x
    exact ⟨⟨n, by rw [← h1]; rfl, h2⟩, rfl⟩
/-- A number of 128 bits, and its side. -/
def wv (b : Bool) (hi lo : Int) : Value := .agg #[.bool b, .int .u64 hi, .int .u64 lo]
/-- What a call answers, as far as it is told. -/
def IsWide (e : Ending) : Prop := ∃ (bl : Bool) (hi lo : Int), e = .returned (wv bl hi lo)
def IsInt (e : Ending) : Prop := ∃ r : Int, e = .returned (.int .i64 r)
def IsBool (e : Ending) : Prop := ∃ r : Bool, e = .returned (.bool r)
set_option maxRecDepth 100000 in
theorem product_is (a b : Int) (w : World) : Calls Tryz.prog 183 #[.int .i64 a, .int .i64 b] w fun e w' => IsWide e ∧ Below w.heap.size w w' := by
  have C1 := fun W => nside_is a W
  have C2 := fun W => nside_is b W
  have ba := (Below.refl w.heap.size w).alloc (Nat.le_refl _) (.cells #[.bool false, .int .u64 0, .int .u64 0] 310)
  have X := Blk.new w 310 [.bool false, .int .u64 0, .int .u64 0]
  have HB := Lib.hid ba
  have HX := Lib.hid X
  clear ba X
  go_enter Tryz.func183, Tryz.ntmps183
  go_upto_region 1 with fail
  generalize w.alloc (.cells #[.bool false, .int .u64 0, .int .u64 0] 310) = w1 at *
  have x0 : w1.cell? ⟨w.heap.size, 0, none⟩ = some (.bool false) := HX.out.cellAt (i := 0) rfl
  have x1 : w1.cell? ⟨w.heap.size, 1, none⟩ = some (.int .u64 0) := HX.out.cellAt (i := 1) rfl
  have x2 : w1.cell? ⟨w.heap.size, 2, none⟩ = some (.int .u64 0) := HX.out.cellAt (i := 2) rfl
  have fz := HX.out.frozen
  go_wp2_with fail
  refine (C1 _).mono ?_
  rintro e w2 ⟨⟨n, rfl, hn⟩, rfl⟩
  go_wp2_with fail
  refine (C2 _).mono ?_
  rintro e w3 ⟨⟨m, rfl, hm⟩, rfl⟩
  have C3 := Tryz.bits_Mul64 n m hn hm w3
  generalize n * m / 18446744073709551616 = hi at C3
  generalize n * m % 18446744073709551616 = lo at C3
  go_upto_region 2 with (go_at_call 197; refine C3.mono ?_; rintro e w4 ⟨rfl, rfl⟩)
  obtain ⟨q, hq⟩ : ∃ q, decide (0 < bits .or .u64 (hi : Int) (lo : Int)) = q := ⟨_, rfl⟩
  have KE : ∀ u : Value, Below w.heap.size w (((w4.setCell ⟨w.heap.size, 0, none⟩ u).setCell ⟨w.heap.size, 1, none⟩ (.int .u64 (hi : Int))).setCell ⟨w.heap.size, 2, none⟩ (.int .u64 (lo : Int))) := fun u =>
    below_keeps HB.out ((((keep1 w.heap.size w4).setCell _ (.inl rfl) _).setCell _ (.inl rfl) _).setCell _ (.inl rfl) _) HB.out.size (fun b hb => Nat.le_of_eq hb.symm)
  have XE : ∀ u : Value, Blk (((w4.setCell ⟨w.heap.size, 0, none⟩ u).setCell ⟨w.heap.size, 1, none⟩ (.int .u64 (hi : Int))).setCell ⟨w.heap.size, 2, none⟩ (.int .u64 (lo : Int))) w.heap.size 310 [u, .int .u64 (hi : Int), .int .u64 (lo : Int)] := fun u => ((HX.out.set_ 0 u).set_ 1 _).set_ 2 _
  have HKE := Lib.hid KE
  have HXE := Lib.hid XE
  clear KE XE HX
  by_cases h1 : a < 0
  · have q1 : decide (a < 0) = true := decide_eq_true h1
    by_cases h2 : b < 0
    · have q2 : decide (b < 0) = true := decide_eq_true h2
      go_wp2_with fail
      have Y := HXE.out (.bool false)
      have y0 := Y.cellAt (i := 0) rfl
      have y1 := Y.cellAt (i := 1) rfl
      have y2 := Y.cellAt (i := 2) rfl
      refine bodyPost_ret (v := .agg #[.bool false, .int .u64 (hi : Int), .int .u64 (lo : Int)]) (by simp [results, Tryz.results183, go_sem, y0, y1, y2]) rfl ?_
      exact ⟨⟨_, _, _, rfl⟩, HKE.out _⟩
    · have q2 : decide (b < 0) = false := decide_eq_false h2
      go_wp2_with fail
      have Y := HXE.out (.bool q)
      have y0 := Y.cellAt (i := 0) rfl
      have y1 := Y.cellAt (i := 1) rfl
      have y2 := Y.cellAt (i := 2) rfl
      refine bodyPost_ret (v := .agg #[.bool q, .int .u64 (hi : Int), .int .u64 (lo : Int)]) (by simp [results, Tryz.results183, go_sem, y0, y1, y2]) rfl ?_
      exact ⟨⟨_, _, _, rfl⟩, HKE.out _⟩
  · have q1 : decide (a < 0) = false := decide_eq_false h1
    by_cases h2 : b < 0
    · have q2 : decide (b < 0) = true := decide_eq_true h2
      go_wp2_with fail
      have Y := HXE.out (.bool q)
      have y0 := Y.cellAt (i := 0) rfl
      have y1 := Y.cellAt (i := 1) rfl
      have y2 := Y.cellAt (i := 2) rfl
      refine bodyPost_ret (v := .agg #[.bool q, .int .u64 (hi : Int), .int .u64 (lo : Int)]) (by simp [results, Tryz.results183, go_sem, y0, y1, y2]) rfl ?_
      exact ⟨⟨_, _, _, rfl⟩, HKE.out _⟩
    · have q2 : decide (b < 0) = false := decide_eq_false h2
      go_wp2_with fail
      have Y := HXE.out (.bool false)
      have y0 := Y.cellAt (i := 0) rfl
      have y1 := Y.cellAt (i := 1) rfl
      have y2 := Y.cellAt (i := 2) rfl
      refine bodyPost_ret (v := .agg #[.bool false, .int .u64 (hi : Int), .int .u64 (lo : Int)]) (by simp [results, Tryz.results183, go_sem, y0, y1, y2]) rfl ?_
      exact ⟨⟨_, _, _, rfl⟩, HKE.out _⟩
set_option maxRecDepth 100000 in
set_option maxHeartbeats 4000000 in
theorem over_is (b1 b2 : Bool) (h1 l1 h2 l2 : Int) (w : World) : Calls Tryz.prog 205 #[wv b1 h1 l1, wv b2 h2 l2] w fun e w' => IsInt e ∧ Below w.heap.size w w' := by
  have ba := (Below.refl w.heap.size w).alloc (Nat.le_refl _) (.cells #[.bool b1, .int .u64 h1, .int .u64 l1] 310)
  have bb := ba.alloc ba.size (.cells #[.bool b2, .int .u64 h2, .int .u64 l2] 310)
  have X := (Blk.new w 310 [.bool b1, .int .u64 h1, .int .u64 l1]).alloc (.cells #[.bool b2, .int .u64 h2, .int .u64 l2] 310)
  have Y := Blk.new (w.alloc (.cells #[.bool b1, .int .u64 h1, .int .u64 l1] 310)) 310 [.bool b2, .int .u64 h2, .int .u64 l2]
  rw [show (w.alloc (.cells #[.bool b1, .int .u64 h1, .int .u64 l1] 310)).heap.size = w.heap.size + 1 by simp] at Y
  have HB := Lib.hid bb
  have HX := Lib.hid X
  have HY := Lib.hid Y
  clear ba bb X Y
  unfold wv
  go_enter Tryz.func205, Tryz.ntmps205
  go_upto_region 1 with fail
  simp only [List.toArray] at HX HY
  generalize (w.alloc (.cells #[.bool b1, .int .u64 h1, .int .u64 l1] 310)).alloc (.cells #[.bool b2, .int .u64 h2, .int .u64 l2] 310) = w1 at *
  have x1 : w1.cell? ⟨w.heap.size, 1, none⟩ = some (.int .u64 h1) := HX.out.cellAt (i := 1) rfl
  have x2 : w1.cell? ⟨w.heap.size, 2, none⟩ = some (.int .u64 l1) := HX.out.cellAt (i := 2) rfl
  have y1 : w1.cell? ⟨w.heap.size + 1, 1, none⟩ = some (.int .u64 h2) := HY.out.cellAt (i := 1) rfl
  have y2 : w1.cell? ⟨w.heap.size + 1, 2, none⟩ = some (.int .u64 l2) := HY.out.cellAt (i := 2) rfl
  clear HX HY
  by_cases e : h1 = h2
  · subst e
    have q1 : (h1 != h1) = false := by simp
    have q2 : (h1 == h1) = true := by simp
    by_cases c : l1 < l2
    · have q3 : decide (l1 < l2) = true := decide_eq_true c
      go_wp2_with fail
      go_ret
      exact ⟨⟨_, rfl⟩, HB.out⟩
    · have q3 : decide (l1 < l2) = false := decide_eq_false c
      by_cases c2 : l1 = l2
      · subst c2
        have q4 : (l1 == l1) = true := by simp
        go_wp2_with fail
        go_ret
        exact ⟨⟨_, rfl⟩, HB.out⟩
      · have q4 : (l1 == l2) = false := by simpa using c2
        go_wp2_with fail
        go_ret
        exact ⟨⟨_, rfl⟩, HB.out⟩
  · have q1 : (h1 != h2) = true := by simpa using e
    have q2 : (h1 == h2) = false := by simpa using e
    by_cases c : h1 < h2
    · have q3 : decide (h1 < h2) = true := decide_eq_true c
      go_wp2_with fail
      go_ret
      exact ⟨⟨_, rfl⟩, HB.out⟩
    · have q3 : decide (h1 < h2) = false := decide_eq_false c
      go_wp2_with fail
      go_ret
      exact ⟨⟨_, rfl⟩, HB.out⟩
set_option maxRecDepth 100000 in
set_option maxHeartbeats 4000000 in
theorem cmp_is (a b c d : Int) (w : World) : Calls Tryz.prog 201 #[.int .i64 a, .int .i64 b, .int .i64 c, .int .i64 d] w fun e w' => IsInt e ∧ Below w.heap.size w w' := by
  have C1 := product_is a b
  have C2 := product_is c d
  have C3 := over_is
  go_enter Tryz.func201, Tryz.ntmps201
  go_wp2_with fail
  refine (C1 _).mono ?_
  rintro e w1 ⟨⟨p1, h1, l1, rfl⟩, b1⟩
  unfold wv at *
  go_wp2_with fail
  refine (C2 _).mono ?_
  rintro e w2 ⟨⟨p2, h2, l2, rfl⟩, b2⟩
  have B2 := b1.trans (b2.mono b1.size)
  unfold wv at *
  clear b1 b2 C1 C2
  go_upto_region 2 with fail
  have bb := ((Below.refl w2.heap.size w2).alloc (Nat.le_refl _) (.cells #[.bool p1, .int .u64 h1, .int .u64 l1] 310)).alloc (by simp) (.cells #[.bool p2, .int .u64 h2, .int .u64 l2] 310)
  have X := (Blk.new w2 310 [.bool p1, .int .u64 h1, .int .u64 l1]).alloc (.cells #[.bool p2, .int .u64 h2, .int .u64 l2] 310)
  have Y := Blk.new (w2.alloc (.cells #[.bool p1, .int .u64 h1, .int .u64 l1] 310)) 310 [.bool p2, .int .u64 h2, .int .u64 l2]
  rw [show (w2.alloc (.cells #[.bool p1, .int .u64 h1, .int .u64 l1] 310)).heap.size = w2.heap.size + 1 by simp] at Y
  have HB := Lib.hid (B2.trans (bb.mono B2.size))
  simp only [List.toArray] at X Y
  clear bb B2
  generalize (w2.alloc (.cells #[.bool p1, .int .u64 h1, .int .u64 l1] 310)).alloc (.cells #[.bool p2, .int .u64 h2, .int .u64 l2] 310) = w3 at *
  have x0 : w3.cell? ⟨w2.heap.size, 0, none⟩ = some (.bool p1) := X.cellAt (i := 0) rfl
  have x1 : w3.cell? ⟨w2.heap.size, 1, none⟩ = some (.int .u64 h1) := X.cellAt (i := 1) rfl
  have x2 : w3.cell? ⟨w2.heap.size, 2, none⟩ = some (.int .u64 l1) := X.cellAt (i := 2) rfl
  have y0 : w3.cell? ⟨w2.heap.size + 1, 0, none⟩ = some (.bool p2) := Y.cellAt (i := 0) rfl
  have y1 : w3.cell? ⟨w2.heap.size + 1, 1, none⟩ = some (.int .u64 h2) := Y.cellAt (i := 1) rfl
  have y2 : w3.cell? ⟨w2.heap.size + 1, 2, none⟩ = some (.int .u64 l2) := Y.cellAt (i := 2) rfl
  generalize w2.heap.size = Xb at *
  clear X Y
  cases p1 with
  | true =>
    cases p2 with
    | true =>
      go_wp2_with (go_at_call 205; refine (C3 _ _ _ _ _ _ _).mono ?_; rintro e w4 ⟨⟨r, rfl⟩, b4⟩)
      go_ret
      exact ⟨⟨_, rfl⟩, HB.out.trans (b4.mono HB.out.size)⟩
    | false =>
      go_wp2_with fail
      go_ret
      exact ⟨⟨_, rfl⟩, HB.out⟩
  | false =>
    cases p2 with
    | true =>
      go_wp2_with fail
      go_ret
      exact ⟨⟨_, rfl⟩, HB.out⟩
    | false =>
      go_wp2_with (go_at_call 205; refine (C3 _ _ _ _ _ _ _).mono ?_; rintro e w4 ⟨⟨r, rfl⟩, b4⟩)
      go_ret
      exact ⟨⟨_, rfl⟩, HB.out.trans (b4.mono HB.out.size)⟩
def sd (x : Int) : Int := if x < 0 then -1 else if 0 < x then 1 else 0
theorem side_is (x : Int) (w : World) : Calls Tryz.prog 200 #[.int .i64 x] w fun e w' => e = .returned (.int .i64 (sd x)) ∧ w' = w := by
  unfold sd
  by_cases h1 : x < 0
  · have q1 : decide (x < 0) = true := decide_eq_true h1
    rw [if_pos h1]
    go_enter Tryz.func200, Tryz.ntmps200
    go_wp2_with fail
    go_ret
    exact ⟨rfl, rfl⟩
  · have q1 : decide (x < 0) = false := decide_eq_false h1
    rw [if_neg h1]
    by_cases h2 : 0 < x
    · have q2 : decide (0 < x) = true := decide_eq_true h2
      rw [if_pos h2]
      go_enter Tryz.func200, Tryz.ntmps200
      go_wp2_with fail
      go_ret
      exact ⟨rfl, rfl⟩
    · have q2 : decide (0 < x) = false := decide_eq_false h2
      rw [if_neg h2]
      go_enter Tryz.func200, Tryz.ntmps200
      go_wp2_with fail
      go_ret
      exact ⟨rfl, rfl⟩
end Sd
end Go.Proofs.YtbgiegecfapmlaaGreatDoor

namespace Go.Proofs.YtbgiegecfapmlaaGreatDoor
open Go.RowKit
set_option linter.unusedVariables false
set_option linter.unusedSimpArgs false
namespace Sd
theorem in_y (n a b : Int) (h1 : a ≤ n) (h2 : n ≤ b) (w : World) : Calls Tryz.prog 132 #[.int .i64 n, .int .i64 a, .int .i64 b] w fun e w' => e = .returned (.bool true) ∧ w' = w := by
  go_enter Tryz.func132, Tryz.ntmps132
  go_wp2_with fail
  go_ret
  exact ⟨rfl, rfl⟩
theorem root_y (w : World) : Calls Tryz.prog 133 #[.int .i64 2, .int .i64 1] w fun e w' => e = .returned (.bool true) ∧ w' = w := by
  have C1 := in_y 2 0 1000000 (by omega) (by omega)
  have C2 := in_y 1 1 1000000 (by omega) (by omega)
  go_enter Tryz.func133, Tryz.ntmps133
  go_wp2_with fail
  refine (C1 _).mono ?_
  rintro e w2 ⟨rfl, rfl⟩
  go_wp2_with fail
  refine (C2 _).mono ?_
  rintro e w3 ⟨rfl, rfl⟩
  go_wp2_with fail
  go_ret
  exact ⟨rfl, rfl⟩
set_option maxRecDepth 100000 in
theorem good_y (x y : Int) (hx : -1000000000 ≤ x ∧ x ≤ 1000000000) (hy : -1000000000 ≤ y ∧ y ≤ 1000000000) (w : World) : Calls Tryz.prog 104 #[.agg #[.int .i64 x, .int .i64 y, .int .i64 2, .int .i64 1]] w fun e w' => e = .returned (.bool true) ∧ Below w.heap.size w w' := by
  have C1 := in_y x (-1000000000) 1000000000 hx.1 hx.2
  have C3 := in_y y (-1000000000) 1000000000 hy.1 hy.2
  have C2 := root_y
  have ba := (Below.refl w.heap.size w).alloc (Nat.le_refl _) (.cells #[.int .i64 x, .int .i64 y, .int .i64 2, .int .i64 1] 196)
  have HB := Lib.hid ba
  clear ba hx hy
  go_enter Tryz.func104, Tryz.ntmps104
  go_wp2_with fail
  refine (C1 _).mono ?_
  rintro e w2 ⟨rfl, rfl⟩
  go_wp2_with fail
  refine (C3 _).mono ?_
  rintro e w3 ⟨rfl, rfl⟩
  go_wp2_with (go_at_call 133; refine (C2 _).mono ?_; rintro e w2 ⟨rfl, rfl⟩)
  go_ret
  exact ⟨rfl, HB.out⟩
theorem sd_rng (x : Int) : sd x = -1 ∨ sd x = 0 ∨ sd x = 1 := by
  unfold sd
  split
  · exact .inl rfl
  · split
    · exact .inr (.inr rfl)
    · exact .inr (.inl rfl)
set_option maxRecDepth 100000 in
set_option maxHeartbeats 4000000 in
theorem sign_is (x y : Int) (hx : -1000000000 ≤ x ∧ x ≤ 1000000000) (hy : -1000000000 ≤ y ∧ y ≤ 1000000000) (w : World) : Calls Tryz.prog 188 #[.agg #[.int .i64 x, .int .i64 y, .int .i64 2, .int .i64 1]] w fun e w' => IsInt e ∧ Below w.heap.size w w' := by
  have ba := (Below.refl w.heap.size w).alloc (Nat.le_refl _) (.cells #[.int .i64 x, .int .i64 y, .int .i64 2, .int .i64 1] 196)
  have X := Blk.new w 196 [.int .i64 x, .int .i64 y, .int .i64 2, .int .i64 1]
  have C1 := good_y x y hx hy (w.alloc (.cells #[.int .i64 x, .int .i64 y, .int .i64 2, .int .i64 1] 196))
  have C2 := fun W => side_is x W
  have C3 := fun W => side_is y W
  have C4 := cmp_is
  have C5 := fun a W => side_is a W
  have HB := Lib.hid ba
  have HX := Lib.hid X
  have hr1 := sd_rng x
  have hr2 := sd_rng y
  clear ba X hx hy
  generalize sd x = u at *
  generalize sd y = v at *
  have HR := Lib.hid (And.intro hr1 hr2)
  clear hr1 hr2
  go_enter Tryz.func188, Tryz.ntmps188
  go_upto_region 1 with fail
  simp only [List.toArray] at HX
  generalize w.alloc (.cells #[.int .i64 x, .int .i64 y, .int .i64 2, .int .i64 1] 196) = w1 at *
  have x0 : w1.cell? ⟨w.heap.size, 0, none⟩ = some (.int .i64 x) := HX.out.cellAt (i := 0) rfl
  have x1 : w1.cell? ⟨w.heap.size, 1, none⟩ = some (.int .i64 y) := HX.out.cellAt (i := 1) rfl
  have x2 : w1.cell? ⟨w.heap.size, 2, none⟩ = some (.int .i64 2) := HX.out.cellAt (i := 2) rfl
  have x3 : w1.cell? ⟨w.heap.size, 3, none⟩ = some (.int .i64 1) := HX.out.cellAt (i := 3) rfl
  go_upto_region 3 with (go_at_call 104; refine C1.mono ?_; rintro e w2 ⟨rfl, b2⟩)
  have X2 := HX.out.below b2 HX.out.lt
  have z0 : w2.cell? ⟨w.heap.size, 0, none⟩ = some (.int .i64 x) := X2.cellAt (i := 0) rfl
  have z1 : w2.cell? ⟨w.heap.size, 1, none⟩ = some (.int .i64 y) := X2.cellAt (i := 1) rfl
  have z2 : w2.cell? ⟨w.heap.size, 2, none⟩ = some (.int .i64 2) := X2.cellAt (i := 2) rfl
  have z3 : w2.cell? ⟨w.heap.size, 3, none⟩ = some (.int .i64 1) := X2.cellAt (i := 3) rfl
  have HB2 := Lib.hid (HB.out.trans (b2.mono HB.out.size))
  clear x0 x1 x2 x3 b2 X2 HX HB C1
  go_quiet (first | (go_at_call 200; exact quiet_eq ((C2 _).mono fun _ _ ⟨h1, h2⟩ => ⟨h1, h2.symm⟩)) | (go_at_call 200; exact quiet_eq ((C3 _).mono fun _ _ ⟨h1, h2⟩ => ⟨h1, h2.symm⟩)))
  have HQ := Lib.hid (HB2.out.trans (((((Keeps.refl (fun _ => False) w2).drewN nq)).below (fun _ _ h => h)).mono HB2.out.size))
  obtain ⟨m, hm⟩ : ∃ m, IntKind.i64.wrap (u * v) = m := ⟨_, rfl⟩
  have hm2 : wrap64 (u * v) = m := by
    rw [← hm, IntKind.wrap_i64]
    unfold wrap64
    generalize u * v = t
    omega
  clear C2 C3
  by_cases h0 : 0 ≤ m
  · have q0 : decide (0 ≤ m) = true := decide_eq_true h0
    go_wp2_with fail
    refine (C5 _ _).mono ?_
    rintro e w4 ⟨rfl, rfl⟩
    go_wp2_with fail
    go_ret
    exact ⟨⟨_, rfl⟩, HQ.out⟩
  · have q0 : decide (0 ≤ m) = false := decide_eq_false h0
    go_wp2_with fail
    refine (C4 _ _ _ _ _).mono ?_
    rintro e w4 ⟨⟨r, rfl⟩, b4⟩
    go_wp2_with fail
    go_ret
    exact ⟨⟨_, rfl⟩, HQ.out.trans (b4.mono HQ.out.size)⟩
set_option maxRecDepth 100000 in
set_option maxHeartbeats 4000000 in
theorem above_is (x y : Int) (hx : 0 ≤ x ∧ x ≤ 1000000000) (hy : 0 ≤ y ∧ y ≤ 1000000000) (w : World) : Calls Tryz.prog 171 #[.int .i64 x, .int .i64 y, .int .i64 2, .int .i64 1] w fun e w' => IsBool e ∧ Below w.heap.size w w' := by
  have C1 := in_y x 0 1000000000 hx.1 hx.2
  have C2 := in_y y 0 1000000000 hy.1 hy.2
  have C3 := root_y
  have C4 := sign_is (x - y) (-y) (by omega) (by omega)
  have h1 : IntKind.i64.wrap (x - y) = x - y := by rw [IntKind.wrap_i64]; omega
  have h2 : wrap64 (x - y) = x - y := by unfold wrap64; omega
  have h3 : IntKind.i64.wrap (-y) = -y := by rw [IntKind.wrap_i64]; omega
  have h4 : wrap64 (-y) = -y := by unfold wrap64; omega
  clear hx hy
  go_enter Tryz.func171, Tryz.ntmps171
  go_wp2_with fail
  refine (C1 _).mono ?_
  rintro e w2 ⟨rfl, rfl⟩
  go_wp2_with fail
  refine (C2 _).mono ?_
  rintro e w3 ⟨rfl, rfl⟩
  go_wp2_with fail
  refine (C3 _).mono ?_
  rintro e w4 ⟨rfl, rfl⟩
  go_wp2_with fail
  refine (C4 _).mono ?_
  rintro e w5 ⟨⟨r, rfl⟩, b5⟩
  obtain ⟨q, hq⟩ : ∃ q, decide (0 < r) = q := ⟨_, rfl⟩
  go_wp2_with fail
  go_ret
  exact ⟨⟨_, rfl⟩, b5⟩
end Sd
end Go.Proofs.YtbgiegecfapmlaaGreatDoor

namespace Go.Proofs.YtbgiegecfapmlaaGreatDoor
open Go.RowKit
set_option linter.unusedVariables false
set_option linter.unusedSimpArgs false
namespace Dv
open Rob (own_below own_block_lt ob_mem blk_below below_drew J fc iv fc_len Goods relAt Fresh Turn infoI iv_one)
open Job (jc jv)
section
variable {w0 w w' : World} {d : Adr} {js : List J} {od : List Int} {s : St} {now : Int} {a : Nat}
def Adr.putA (d : Adr) (v : Value) : Adr := { d with av := v }
def Adr.putT (d : Adr) (v : Value) : Adr := { d with tv := v }
set_option maxRecDepth 100000 in
set_option maxHeartbeats 8000000 in
theorem decide_is (hB : Below w0.heap.size w0 w) (h : At w0.heap.size w d js od s now) (ho : Ok js a 12 s) (hg : Goods js) (hnow : 0 ≤ now ∧ now ≤ 100000) {i : Nat} (hi : i < js.length) (hk : kdAt s i = 0)
    {bs : Nat} {A : Option Addr} {n c : Nat} {l : List Int} (O : w.ownsRow bs 3 1 (.slice A n c) n (l.map iv)) (hl : ∀ x ∈ l, 0 ≤ x ∧ x < js.length) {x0 : Int} (hl0 : l[0]? = some x0) (hk0 : kdAt s x0.toNat = 0) (hbs : ∀ b ∈ d.blocks, b < bs)
    {v : Int} (hv : 0 ≤ v ∧ v ≤ 100000000) :
    Calls Tryz.prog 146 #[.pointer (some ⟨d.p, 0, none⟩), .int .i64 (i : Int), .slice A n c, .int .i64 v] w fun e w' => e = .returned (.tuple #[]) ∧ ∃ s' av, At w0.heap.size w' (d.putA av) js od s' now ∧ Ok js a 12 s' ∧ wt s' < wt s ∧ Below w0.heap.size w0 w' := by
  obtain ⟨i0, hI0, hz0, hz1, hz2⟩ := infoI
  obtain ⟨AL, cL, hav⟩ := own_shape h.A
  have b7 : w.cell? ⟨d.p, 7, none⟩ = some (.slice AL s.al.length cL) := by have := h.B.cellAt (i := 7) rfl; rw [hav] at this; exact this
  have O3 : (w.alloc (.cells #[.int .i64 (i : Int)] 3)).ownsRow w0.heap.size 3 1 (.slice AL s.al.length cL) s.al.length (s.al.map iv) := by
    have := own_below h.A ((Below.refl w.heap.size w).alloc (Nat.le_refl _) (.cells #[.int .i64 (i : Int)] 3))
    rw [hav] at this
    exact this
  have hsz3 := Nat.le_trans hB.size (show w.heap.size ≤ (w.alloc (.cells #[.int .i64 (i : Int)] 3)).heap.size by simp)
  have hal : s.al.length ≤ 12 := by have := ho.al; omega
  have hn12 := h.n12
  have hnp := Lib.hid (fun e : (Value.slice AL s.al.length cL).ownBlock = some d.p => (h.apt.o d.p (by simp only [List.mem_append]; rw [hav]; exact .inl (.inr (ob_mem.2 e)))).1 rfl)
  have H := Lib.hid h
  have HB := Lib.hid hB
  have HO := Lib.hid ho
  have HG := Lib.hid hg
  have HN := Lib.hid hnow
  have HI := Lib.hid hi
  have HK := Lib.hid hk
  have HOA := Lib.hid O
  have HL := Lib.hid hl
  have HL0 := Lib.hid hl0
  have HK0 := Lib.hid hk0
  have HBS := Lib.hid hbs
  have HV := Lib.hid hv
  have HAV := Lib.hid hav
  clear h hB ho hg hnow hi hk O hl hl0 hk0 hbs hv hav
  go_enter Tryz.func146, Tryz.ntmps146
  go_upto_region 1 with (at_builtin; refine wpList_append_has rfl (.tmp 15) (.tmp 17) 23 rfl i0 _ 8 Tryz.underlying23 hI0 hz0 hz1 hz2 rfl (by decide) rfl O3 (some ⟨w.heap.size, 0, none⟩) 1 1 [.int .i64 (i : Int)] rfl (Has.box w 3 1 1 [.int .i64 (i : Int)] rfl (by unfold maxLen; omega)) (iv_one [(i : Int)]) (by unfold maxLen; omega) (by omega) hsz3 ?_; intro v6 w6 own6 g6 at6; have BP6 := (H.out.B.alloc (.cells #[.int .i64 (i : Int)] 3)).grown g6 hnp.out; have f6 := BP6.frozen; have d6 := BP6.cellAt (i := 7) rfl; obtain ⟨A6, c6, hv6⟩ := own_shape own6; subst hv6; have OWN6 := Lib.hid own6; have G6 := Lib.hid g6; have AT6 := Lib.hid at6; have HP6 := Lib.hid BP6; clear own6 g6 at6 BP6 O3)
  have K6 : Keeps (Turn d.p d.av) w w6 := keeps_grown ((Keeps.refl _ w).alloc _) G6.out (fun g hg => .inl (.inr (by rw [HAV.out]; exact hg)))
  have K7 := K6.setCell ⟨d.p, 7, none⟩ (.inl (show Turn _ _ d.p from .inl rfl)) (.slice A6 (s.al.length + 1) c6)
  have hp2 : d.p < w.heap.size := H.out.lt d.p (by simp [Adr.blocks])
  have hne6 : (Value.slice A6 (s.al.length + 1) c6).ownBlock ≠ some d.p := by
    rcases AT6.out with e | e
    · rw [e]; exact hnp.out
    · rw [e]; intro e2
      have := Option.some.inj e2
      simp at this
      omega
  have hS := own_kept OWN6.out ((keep1 d.p w6).setCell ⟨d.p, 7, none⟩ (.inl rfl) (.slice A6 (s.al.length + 1) c6)) (fun g _ _ hg e => hne6 (by rw [hg, e]))
  have hS' : (w6.setCell ⟨d.p, 7, none⟩ (.slice A6 (s.al.length + 1) c6)).ownsRow w0.heap.size 3 1 (.slice A6 (s.al.length + 1) c6) (s.al ++ [(i : Int)]).length ((s.al ++ [(i : Int)]).map iv) := by
    rw [List.length_append, List.map_append]; exact hS
  have h3 : At w0.heap.size (w6.setCell ⟨d.p, 7, none⟩ (.slice A6 (s.al.length + 1) c6)) (d.putA (.slice A6 (s.al.length + 1) c6)) js od { s with al := s.al ++ [(i : Int)] } now :=
    H.out.als HB.out.size K7 (Fresh.of (by rw [HAV.out]; exact AT6.out) (by simp)) (HP6.out.set_ 7 _) hS'
  have B3 := below_keeps HB.out K7 HB.out.size (fun b hb => by
    rcases hb with rfl | hb
    · exact H.out.ge _ (by simp [Adr.blocks])
    · exact H.out.ge b (by simp only [Adr.blocks, List.mem_cons, List.mem_append]; exact .inr (.inr (.inr (.inl (.inr (ob_mem.2 hb)))))))
  have OA : (w6.setCell ⟨d.p, 7, none⟩ (.slice A6 (s.al.length + 1) c6)).ownsRow bs 3 1 (.slice A n c) n (l.map iv) := own_kept HOA.out K7 (fun g _ _ hg e => by
    have h1 := (own_block_lt HOA.out g (ob_mem.2 hg)).1
    rcases e with e | e
    · have := HBS.out g (by rw [e]; simp [Adr.blocks]); omega
    · have := HBS.out g (by simp only [Adr.blocks, List.mem_cons, List.mem_append]; exact .inr (.inr (.inr (.inl (.inr (ob_mem.2 e)))))); omega)
  have hav2 : ∀ b, (Value.slice A6 (s.al.length + 1) c6).ownBlock = some b → (Value.slice A n c).ownBlock ≠ some b := fun b hb e => by
    have h1 := (own_block_lt HOA.out b (ob_mem.2 e))
    rcases AT6.out with e2 | e2
    · rw [e2] at hb
      have := HBS.out b (by simp only [Adr.blocks, List.mem_cons, List.mem_append]; rw [HAV.out]; exact .inr (.inr (.inr (.inl (.inr (ob_mem.2 hb))))))
      omega
    · rw [e2] at hb
      have := Option.some.inj hb
      simp at this
      omega
  have hgf : (Value.slice A n c).ownBlock ≠ some d.gf := fun e => by
    have h1 := (own_block_lt HOA.out _ (ob_mem.2 e)).1
    have := HBS.out d.gf (by simp [Adr.blocks])
    omega
  have ok3 : Ok js a 13 { s with al := s.al ++ [(i : Int)] } := ⟨HO.out.ran, HO.out.tr, by have := HO.out.al; show (s.al ++ [(i : Int)]).length + wt s ≤ 13; simp; omega⟩
  have hwt : wt { s with al := s.al ++ [(i : Int)] } = wt s := rfl
  have hkd : ∀ j, kdAt { s with al := s.al ++ [(i : Int)] } j = kdAt s j := fun _ => rfl
  have hal1 : ({ s with al := s.al ++ [(i : Int)] } : St).al.length = s.al.length + 1 := by simp
  have HH3 := Lib.hid h3
  have HB3 := Lib.hid B3
  have HOA3 := Lib.hid OA
  have HGF := Lib.hid hgf
  have HOK3 := Lib.hid ok3
  have HWT := Lib.hid hwt
  have HKD := Lib.hid hkd
  have HAL1 := Lib.hid hal1
  clear K6 K7 hp2 hne6 hS hS' OWN6 G6 AT6 HP6 f6 d6 b7 hsz3 hal hnp H HB h3 B3 OA hgf hav2 ok3 hwt hkd hal1 HAV HOA HBS
  generalize w6.setCell ⟨d.p, 7, none⟩ (.slice A6 (s.al.length + 1) c6) = w3 at *
  generalize Value.slice A6 (s.al.length + 1) c6 = av at *
  generalize ({ s with al := s.al ++ [(i : Int)] } : St) = s1 at *
  obtain ⟨b, off, x, hA, hx, hbl, c0, c1, c2, c3, c4, c5, c6', c7⟩ := Job.cells8 HH3.out.JR HI.out
  have e0 : w3.cell? ⟨d.p, 0, none⟩ = some (.int .i64 2) := HH3.out.B.cellAt (i := 0) rfl
  have e1 : w3.cell? ⟨d.p, 1, none⟩ = some (.int .i64 1) := HH3.out.B.cellAt (i := 1) rfl
  have e2 : w3.cell? ⟨d.p, 2, none⟩ = some (.slice d.Aj js.length d.cj) := HH3.out.B.cellAt (i := 2) rfl
  have hA' : d.Aj = some ⟨b, off, none⟩ := hA
  rw [hA'] at e2
  have hi0 : (0 : Int) ≤ (i : Int) := by omega
  have hi1 : (i : Int) < (js.length : Int) := by have := HI.out; omega
  have hgx := Job.good_ok (HG.out x (List.mem_of_getElem? hx)).1
  have hval := hgx.val
  have CA := Sd.above_is x.val v (by omega) (by have := HV.out; omega) w3.drew
  have hmin : min v 1000000000 = v := by have := HV.out; omega
  have HLT := Lib.hid (show d.p < w3.heap.size ∧ b < w3.heap.size from ⟨HH3.out.B.lt, hbl⟩)
  clear hgx hval hA hA' hx c0 c1 c2 c3 c4 c6' c7 hbl
  go_region_held3 (fun W => W.cell? ⟨d.p, 0, none⟩ = some (.int .i64 2) ∧ W.cell? ⟨d.p, 1, none⟩ = some (.int .i64 1) ∧ W.cell? ⟨d.p, 2, none⟩ = some (.slice (some ⟨b, off, none⟩) js.length d.cj) ∧ W.cell? ⟨b, off + i * 8 + 5, none⟩ = some (.int .i64 x.val)) (first | exact ⟨e0, e1, e2, c5⟩ | exact ⟨y0, y1, y2, y5⟩) (first | (go_at_call 171; refine CA.mono ?_; rintro e w4 ⟨⟨r, rfl⟩, hb⟩; have hb5 := (below_drew w3).trans (hb.mono (Nat.le_refl _)); have y0 := (hb5.cell HLT.out.1).trans e0; have y1 := (hb5.cell HLT.out.1).trans e1; have y2 := (hb5.cell HLT.out.1).trans e2; have y5 := (hb5.cell HLT.out.2).trans c5))
  have h4 := HH3.out.down hb5
  have B4 := HB3.out.trans (hb5.mono HB3.out.size)
  have O4 := own_below HOA3.out hb5
  have H4 := Lib.hid h4
  have HB4 := Lib.hid B4
  have HO4 := Lib.hid O4
  clear h4 B4 O4 hb5 hb y0 y1 y2 y5 e0 e1 e2 c5 CA HH3 HB3 HOA3 HLT hmin
  have hi2 : i < s1.fs.length := by rw [H4.out.lf]; exact HI.out
  cases r with
  | false =>
    have SI := say_is H4.out HI.out 3 0 (by have := HN.out; omega)
    rw [Int.add_zero] at SI
    go_wp2_with fail
    refine SI.mono ?_
    rintro e w5 ⟨rfl, h5, k5⟩
    have B5 := below_keeps HB4.out k5 HB4.out.size (fun b hb => by rw [hb]; exact H4.out.ge d.gf (by simp [Adr.blocks, Adr.putA]))
    have HH5 := Lib.hid h5
    have HB5 := Lib.hid B5
    clear SI h5 k5 B5
    go_wp2_with fail
    first | go_ret | go_end0 | (refine bodyPost_ret (v := .tuple #[]) (results_none rfl _ _ _) rfl ?_) | (simp only [Exit.inBlock, Exit.then]; refine bodyPost_ret (results_none rfl _ _ _) rfl ?_)
    have hy := (HOK3.out.say (k := 3) (t := now) (by decide) hi2)
    have hwy := hy.2.2 (by rw [HKD.out]; exact HK.out)
    have hok : Ok js a 12 (say s1 i 3 now) := ⟨hy.1.ran, hy.1.tr, by
      have h1 := HO.out.al
      have h2 := HAL1.out
      have h3 := HWT.out
      show s1.al.length + wt (say s1 i 3 now) ≤ 12
      omega⟩
    exact ⟨rfl, _, av, HH5.out, hok, by rw [← HWT.out]; exact hwy, HB5.out⟩
  | true =>
    have hn0 : l.length = n := by have := HO4.out.1; simpa using this
    have hnp : 0 < n := by
      have := (List.getElem?_eq_some_iff.1 HL0.out).1
      omega
    have HNP := Lib.hid hnp
    have HNL := Lib.hid hn0
    have hnmax : n ≤ 9223372036854775807 := (Has.of_own HO4.out).len
    have HI2 := Lib.hid hi2
    clear hnp hn0 hi2
    go_wp2_with fail
    go_loopw [49] (fun u wr => ∃ (k : Nat) (z : St), k ≤ n ∧ u = .int .i64 (k : Int) ∧ At w0.heap.size wr (d.putA av) js od z now ∧ Ok js a 13 z ∧ z.al.length = s.al.length + 1 ∧ wt z ≤ wt s ∧ (k = 0 → z = s1) ∧ (0 < k → wt z < wt s) ∧ wr.ownsRow bs 3 1 (.slice A n c) n (l.map iv) ∧ Below w0.heap.size w0 wr) (fun u _ => n - (intOf u).toNat)
    case atStart => exact ⟨0, s1, by omega, rfl, H4.out, HOK3.out, HAL1.out, Nat.le_of_eq HWT.out, fun _ => rfl, fun h => by omega, HO4.out, HB4.out⟩
    case round =>
      clear H4 HO4 HB4
      obtain ⟨k, z, hkn, rfl, h, hok, hzal, hzw, hz0, hz1, O, B⟩ := hrel
      by_cases hlt : k < n
      · have hlti : (k : Int) < (n : Int) := by omega
        have hk0 : (0 : Int) ≤ (k : Int) := by omega
        have hk1 : (k : Int) + 1 ≤ 9223372036854775807 := by omega
        obtain ⟨y, hy⟩ : ∃ y, l[k]? = some y := ⟨_, List.getElem?_eq_getElem (by rw [HNL.out]; exact hlt)⟩
        obtain ⟨g, off2, hA2, hc⟩ := (Has.of_own O).at_ (by omega)
        have cy : wr.cell? ⟨g, off2 + k, none⟩ = some (.int .i64 y) := hc k _ (by rw [List.getElem?_map, hy]; rfl)
        have hyb := HL.out y (List.mem_of_getElem? hy)
        have hym : (y.toNat : Int) = y := by omega
        have SI := say_is h (i := y.toNat) (by omega) 3 0 (by have := HN.out; omega)
        rw [Int.add_zero, hym] at SI
        have hzl : y.toNat < z.fs.length := by rw [h.lf]; omega
        have hsay := hok.say (k := 3) (t := now) (by decide) hzl
        have hlt2 : wt (say z y.toNat 3 now) < wt s := by
          by_cases hk : k = 0
          · have e := hz0 hk
            subst hk
            have e2 : y = x0 := by have := HL0.out; rw [hy] at this; exact Option.some.inj this
            have := hsay.2.2 (by rw [e, HKD.out, e2]; exact HK0.out)
            omega
          · have := hz1 (by omega)
            have := hsay.2.1
            omega
        have hgf : (Value.slice A n c).ownBlock ≠ some d.gf := HGF.out
        have hge := h.ge d.gf (by simp [Adr.blocks, Adr.putA])
        have HSAY := Lib.hid hsay.1
        have HLT2 := Lib.hid hlt2
        have HZAL := Lib.hid hzal
        have HO5 := Lib.hid O
        have HA2 := Lib.hid hA2
        have HB5 := Lib.hid B
        have HGE := Lib.hid hge
        rw [hA2]
        clear hsay hlt2 hz0 hz1 hok hzw h hc hyb hym hzl hgf hge hzal O B hy
        go_wp2_with (go_at_call 117; refine SI.mono ?_; rintro e w5 ⟨rfl, h5, k5⟩; have HH5 := Lib.hid h5; have HK5 := Lib.hid k5; clear h5 k5)
        go_roundw
        case rel =>
          refine ⟨_, _, _, _, _, _, _, _, _, ?_, rfl⟩
          rw [← hA2]
          exact ⟨k + 1, say z y.toNat 3 now, by omega, by simp, HH5.out, HSAY.out, HZAL.out, Nat.le_of_lt HLT2.out, fun h => by omega, fun _ => HLT2.out, own_kept HO5.out HK5.out (fun g _ _ hg e => HGF.out (by rw [hg, e]; rfl)), below_keeps HB5.out HK5.out HB5.out.size (fun b hb => by rw [hb]; exact HGE.out)⟩
        case measure => simp [intOf]; omega
      · have hlti : ¬ (k : Int) < (n : Int) := by omega
        have hh := Lib.hid h
        have hw := hz1 (by have := HNP.out; omega)
        have hok2 : Ok js a 12 z := ⟨hok.ran, hok.tr, by have h1 := HO.out.al; omega⟩
        have HW := Lib.hid hw
        have HOK2 := Lib.hid hok2
        have HB5 := Lib.hid B
        clear h O hw hok2 hok hz0 hz1 hzw hzal B
        go_wp2_with fail
        first | go_ret | go_end0 | (refine bodyPost_ret (v := .tuple #[]) (results_none rfl _ _ _) rfl ?_) | (simp only [Exit.inBlock, Exit.then]; refine bodyPost_ret (results_none rfl _ _ _) rfl ?_)
        exact ⟨rfl, z, ⟨av, hh.out⟩, HOK2.out, HW.out, HB5.out⟩
end
end Dv
end Go.Proofs.YtbgiegecfapmlaaGreatDoor

namespace Go.Proofs.YtbgiegecfapmlaaGreatDoor
open Go.RowKit
set_option linter.unusedVariables false
set_option linter.unusedSimpArgs false
namespace Dv
open Rob (own_below own_block_lt ob_mem blk_below below_drew J fc iv fc_len Goods relAt Fresh Turn infoI iv_one)
open Job (jc jv)
section
variable {w0 w w' : World} {d : Adr} {js : List J} {od : List Int} {s : St} {now : Int} {a : Nat}
/-- What ring leaves. -/
def RingPost (w0 : World) (d : Adr) (js : List J) (od : List Int) (s : St) (now : Int) (a : Nat) (e : Ending) (w' : World) : Prop := ∃ r : Bool, e = .returned (.bool r) ∧ ∃ s' av, At w0.heap.size w' (d.putA av) js od s' now ∧ Ok js a 12 s' ∧ (r = true → wt s' < wt s) ∧ Below w0.heap.size w0 w'
set_option maxRecDepth 100000 in
set_option maxHeartbeats 8000000 in
theorem ring_is (T : Tabs w0) (hB : Below w0.heap.size w0 w) (h : At w0.heap.size w d js od s now) (ho : Ok js a 12 s) (hg : Goods js) (ha : a ≤ 20000) (hnow : 0 ≤ now ∧ now ≤ 100000) :
    Calls Tryz.prog 115 #[.pointer (some ⟨d.p, 0, none⟩)] w fun e w' => RingPost w0 d js od s now a e w' := by
  obtain ⟨i0, hI0, hz0, hz1, hz2⟩ := infoI
  have CL := lives_is h
  have hLm : ∀ x ∈ lives js s now od, (0 ≤ x ∧ x < js.length) ∧ kdAt s x.toNat = 0 := fun x hx => ⟨h.od x (lives_mem hx).1, (lives_mem hx).2⟩
  have hLn : (lives js s now od).length ≤ 12 := by
    have h1 : (lives js s now od).length ≤ od.length := List.length_filter_le _ _
    have h2 := h.OR.1
    have h3 := h.n12
    omega
  generalize lives js s now od = L at *
  have hn12 := h.n12
  have H := Lib.hid h
  have HB := Lib.hid hB
  have HO := Lib.hid ho
  have HG := Lib.hid hg
  have HN := Lib.hid hnow
  have HT := Lib.hid T
  have HA := Lib.hid ha
  have HLM := Lib.hid hLm
  have HLL := Lib.hid hLn
  clear h hB ho hg hnow T ha hLm hLn
  go_enter Tryz.func115, Tryz.ntmps115
  go_wp2_with fail
  refine CL.mono ?_
  rintro e w2 ⟨v, rfl, hL, b2⟩
  obtain ⟨AL, cL, hv⟩ := own_shape hL
  subst hv
  have h2 := H.out.down b2
  have hbs : ∀ b ∈ d.blocks, b < w2.heap.size := fun b hb => Nat.lt_of_lt_of_le (H.out.lt b hb) b2.size
  have HH2 := Lib.hid h2
  have HB2 := Lib.hid (HB.out.trans (b2.mono HB.out.size))
  have HHL := Lib.hid hL
  have HBS := Lib.hid hbs
  clear hL b2 h2 hbs CL H HB
  go_wp2_with fail
  go_loopw [3, 4, 11] (fun ah va ix wr => ∃ (k m : Nat) (z : Int) (l : List Int), k ≤ L.length ∧ ix = .int .i64 (k : Int) ∧ va = .int .i64 z ∧ (0 ≤ z ∧ z ≤ (k : Int) * 1000000) ∧ wr.ownsRow w2.heap.size 3 1 ah m (l.map iv) ∧ m ≤ k ∧ (∀ x ∈ l, x ∈ L) ∧ Below w2.heap.size w2 wr) (fun _ _ ix _ => L.length - (intOf ix).toNat)
  case atStart => exact ⟨0, 0, 0, [], by omega, rfl, rfl, ⟨by omega, by omega⟩, ⟨rfl, .inl ⟨rfl, rfl⟩⟩, by omega, (fun x hx => by cases hx), Below.refl _ _⟩
  case round =>
    obtain ⟨k, m, z, l, hk, hix, hva, hz, O, hm, hlm, B⟩ := hrel
    subst hix hva
    obtain ⟨AS, cS, hv⟩ := own_shape O
    subst hv
    by_cases hlt : k < L.length
    · have hlti : (k : Int) < (L.length : Int) := by omega
      have hk0 : (0 : Int) ≤ (k : Int) := by omega
      have hk1 : (k : Int) + 1 ≤ 9223372036854775807 := by have := HLL.out; omega
      obtain ⟨y, hy⟩ : ∃ y, L[k]? = some y := ⟨_, List.getElem?_eq_getElem hlt⟩
      have hyL := List.mem_of_getElem? hy
      obtain ⟨g, off2, hA2, hc⟩ := (Has.of_own (own_below HHL.out B)).at_ (by omega)
      have cy : wr.cell? ⟨g, off2 + k, none⟩ = some (.int .i64 y) := hc k _ (by rw [List.getElem?_map, hy]; rfl)
      have hyb := (HLM.out y hyL).1
      have hym : (y.toNat : Int) = y := by omega
      have hyn : y.toNat < js.length := by omega
      have CA := aborted_is (HH2.out.down B) hyn
      rw [hym] at CA
      have HGO := Lib.hid (own_block_lt O)
      have HMM := Lib.hid (show m ≤ 12 ∧ m ≤ k from ⟨by have := HLL.out; omega, hm⟩)
      have HO1 := Lib.hid O
      have HB1 := Lib.hid B
      have HLM1 := Lib.hid hlm
      have HZ := Lib.hid hz
      have HYL := Lib.hid hyL
      have HYN := Lib.hid hyn
      have HYM := Lib.hid hym
      have HA2 := Lib.hid hA2
      rw [hA2]
      clear hc hy O B hlm hm hz hyL hyn hym hyb
      obtain ⟨q, hq⟩ : ∃ q, ab js s y.toNat = q := ⟨_, rfl⟩
      rw [hq] at CA
      clear hq
      cases q with
      | true =>
        go_wp2_with (go_at_call 145; refine CA.mono ?_; rintro e w3 ⟨rfl, b3⟩; have HB3 := Lib.hid b3; clear b3)
        go_roundw
        case rel => exact ⟨k + 1, m, z, l, by omega, by simp, by simp, by have := HZ.out; omega, own_below HO1.out HB3.out, by have := HMM.out; omega, HLM1.out, HB1.out.trans (HB3.out.mono HB1.out.size)⟩
        case measure => simp [intOf]; omega
      | false =>
        go_upto_region 7 with (go_at_call 145; refine CA.mono ?_; rintro e w3 ⟨rfl, b3⟩)
        have B3 := HB1.out.trans (b3.mono HB1.out.size)
        have h3 := HH2.out.down B3
        have O3 := own_below HO1.out b3
        obtain ⟨b, off, x, hA, hx, hbl, c0, c1, c2, c3, c4, c5, c6, c7⟩ := Job.cells8 h3.JR HYN.out
        have e2 : w3.cell? ⟨d.p, 2, none⟩ = some (.slice d.Aj js.length d.cj) := h3.B.cellAt (i := 2) rfl
        have hA' : d.Aj = some ⟨b, off, none⟩ := hA
        rw [hA'] at e2
        have hgx := HG.out x (List.mem_of_getElem? hx)
        have hok := Job.good_ok hgx.1
        have hY := HYM.out
        have hyi : (y.toNat : Int) < (js.length : Int) := by have := HYN.out; omega
        have ba := (Below.refl w3.heap.size w3).alloc (Nat.le_refl _) (.cells (jc x).toArray 36)
        have h4 := h3.down ba
        have O4 := own_below O3 ba
        have B4 := B3.trans (ba.mono B3.size)
        have XB := Job.Box.of (Blk.new w3 36 (jc x))
        have hnx : (Value.slice AS m cS).ownBlock ≠ some w3.heap.size := fun e => by
          have h1 := (HGO.out _ (ob_mem.2 e)).2
          have h2 := b3.size
          omega
        have hzn : 0 ≤ z + x.val ∧ z + x.val ≤ ((k + 1 : Nat) : Int) * 1000000 := by
          have := hok.val
          have := HZ.out
          omega
        have hln : ∀ u ∈ l ++ [y], u ∈ L := fun u hu => by
          rcases List.mem_append.1 hu with hu | hu
          · exact HLM1.out u hu
          · have e := List.mem_singleton.1 hu
            rw [e]; exact HYL.out
        have HZN := Lib.hid hzn
        have HLN := Lib.hid hln
        have HNX0 := Lib.hid hnx
        have HGX := Lib.hid hgx
        have HOK := Lib.hid hok
        have hw1 : IntKind.i64.wrap (z + x.val) = z + x.val := by have := HMM.out; have := HLL.out; rw [IntKind.wrap_i64]; omega
        have hw2 : wrap64 (z + x.val) = z + x.val := by have := HMM.out; have := HLL.out; unfold wrap64; omega
        clear hzn hln hnx hgx hok b3 B3 h3 O3 hx hA hbl CA ba
        unfold jc at XB h4 O4 B4
        have y8 := h4.B.cellAt (i := 8) rfl
        have y4 := h4.B.cellAt (i := 4) rfl
        have yr := h4.R.cellAt (ran_get h4 HYN.out)
        have HH4 := Lib.hid h4
        have HO4 := Lib.hid O4
        have HB4 := Lib.hid B4
        clear h4 O4 B4
        go_upto_region 8 with fail
        simp only [List.toArray] at y8 y4 yr
        generalize w3.alloc (.cells #[.string x.nm, .int .i64 x.rel, .int .i64 x.dl, .int .i64 x.bud, .int .i64 x.act, .int .i64 x.val, .int .i64 x.cln, .bool x.hard] 36) = w4 at *
        generalize w3.heap.size = X at *
        clear c0 c1 c2 c3 c4 c5 c6 c7 e2
        have HNX : Hid ((Value.slice AS m cS).ownBlock ≠ some X) := HNX0
        obtain ⟨x0, x1, x2, x3, x4, x5, x6, x7⟩ := XB
        by_cases hm0 : m = 0
        · subst hm0
          clear x0 x1 x2 x3 x4 x6 x7 y8 y4 yr HNX0
          go_quiet (fail)
          have HB5 := Lib.hid (HB4.out.trans (((Keeps.refl (fun _ => False) w4).drewN nq).below (fun _ _ h => h) |>.mono HB4.out.size))
          have O5 := own_below HO4.out (((Keeps.refl (fun _ => False) w4).drewN nq).below (fun _ _ h => h))
          have x5 : (w4.drewN nq).cell? ⟨X, 5, none⟩ = some (.int .i64 x.val) := x5
          have ba6 := (Below.refl (w4.drewN nq).heap.size (w4.drewN nq)).alloc (Nat.le_refl _) (.cells #[.int .i64 y] 3)
          have O6 := own_below O5 ba6
          have x56 := (ba6.cell (World.block_lt_of_cell? _ _ x5)).trans x5
          have hX6 := World.block_lt_of_cell? _ _ x56
          have hsz6 : w2.heap.size ≤ ((w4.drewN nq).alloc (.cells #[.int .i64 y] 3)).heap.size := Nat.le_trans HB5.out.size ba6.size
          have B6 := Lib.hid (HB5.out.alloc HB5.out.size (.cells #[.int .i64 y] 3))
          have HX6 := Lib.hid hX6
          have HX56 := Lib.hid x56
          clear ba6 x56 hX6
          go_wp2_with (at_builtin; refine wpList_append_has rfl (.tmp 53) (.tmp 55) 23 rfl i0 _ 8 Tryz.underlying23 hI0 hz0 hz1 hz2 rfl (by decide) rfl O6 (some ⟨(w4.drewN nq).heap.size, 0, none⟩) 1 1 [.int .i64 y] rfl (Has.box (w4.drewN nq) 3 1 1 [.int .i64 y] rfl (by unfold maxLen; omega)) (iv_one [y]) (by have := HMM.out; unfold maxLen; omega) (by have := HMM.out; omega) hsz6 ?_; intro v6 w6 own6 g6 at6; have z5 : w6.cell? ⟨X, 5, none⟩ = some (.int .i64 x.val) := by { rw [World.cell?_of_block (a := ⟨X, 5, none⟩) (g6.block X HX6.out (fun e => HNX.out e.symm))]; exact HX56.out }; obtain ⟨A6, c6, hv6⟩ := own_shape own6; subst hv6; have OWN6 := Lib.hid own6; have KG := Lib.hid (keeps_grown (w0 := w2) (S := fun _ => False) (Keeps.of_below B6.out) g6 (fun g hg => .inr (HGO.out g (ob_mem.2 hg)).1)); clear own6 g6 at6)
          go_roundw
          case rel => exact ⟨k + 1, 0 + 1, z + x.val, l ++ [y], by omega, by simp, by simp, HZN.out, by rw [List.map_append]; exact OWN6.out, by have := HMM.out; omega, HLN.out, KG.out.below (fun _ _ h => h)⟩
          case measure => simp [intOf]; omega
        · have hmi : decide ((0 : Int) < (m : Int)) = true := decide_eq_true (by omega)
          have hmn : decide (0 < m) = true := decide_eq_true (by omega)
          have hY := HYM.out
          have hyi0 : (0 : Int) ≤ y := by omega
          have hyi1 : y < (js.length : Int) := by have := HYN.out; omega
          have hr0 := HO.out.ran y.toNat
          have hch : Job.charge x = x.charge := by unfold Job.charge; rw [HGX.out.1]; rfl
          have CC := Job.charge_is x w4.drew (HT.out.below ((HB2.out.trans (HB4.out.mono HB2.out.size)).trans ((below_drew w4).mono (HB2.out.trans (HB4.out.mono HB2.out.size)).size))) HGX.out.2
          rw [hch] at CC
          have hcb : 0 ≤ x.charge ∧ x.charge ≤ 1100 := by have h1 := HOK.out.bud; have h2 := HOK.out.cln; have : x.charge = x.bud + x.cln := rfl; omega
          have hdl : 0 ≤ x.dl ∧ x.dl ≤ 10000 := by have h1 := HOK.out.rel; have h2 := HOK.out.dl; have h3 := HOK.out.most; omega
          have haa := HA.out
          have hnn := HN.out
          generalize x.charge = ch at *
          generalize ranAt s y.toNat = r at *
          have hw3 : IntKind.i64.wrap (x.dl - now) = x.dl - now := by rw [IntKind.wrap_i64]; omega
          have hw4 : wrap64 (x.dl - now) = x.dl - now := by unfold wrap64; omega
          have hw5 : IntKind.i64.wrap (ch - r) = ch - r := by rw [IntKind.wrap_i64]; omega
          have hw6 : wrap64 (ch - r) = ch - r := by unfold wrap64; omega
          unfold jv at CC
          have HLT := Lib.hid (show X < w4.heap.size ∧ d.p < w4.heap.size ∧ d.gr < w4.heap.size from ⟨World.block_lt_of_cell? _ _ x0, HH4.out.B.lt, HH4.out.R.lt⟩)
          obtain ⟨q, hq⟩ : ∃ q, decide (x.dl - now ≤ ch - r) = q := ⟨_, rfl⟩
          clear hr0 hcb hdl haa hnn hch HNX0
          go_region_held3 (fun W => W.cell? ⟨d.p, 8, none⟩ = some (.int .i64 now) ∧ W.cell? ⟨d.p, 4, none⟩ = some (.slice (some ⟨d.gr, 0, none⟩) js.length d.cr) ∧ W.cell? ⟨d.gr, y.toNat, none⟩ = some (.int .i64 r) ∧ W.cell? ⟨X, 0, none⟩ = some (.string x.nm) ∧ W.cell? ⟨X, 1, none⟩ = some (.int .i64 x.rel) ∧ W.cell? ⟨X, 2, none⟩ = some (.int .i64 x.dl) ∧ W.cell? ⟨X, 3, none⟩ = some (.int .i64 x.bud) ∧ W.cell? ⟨X, 4, none⟩ = some (.int .i64 x.act) ∧ W.cell? ⟨X, 5, none⟩ = some (.int .i64 x.val) ∧ W.cell? ⟨X, 6, none⟩ = some (.int .i64 x.cln) ∧ W.cell? ⟨X, 7, none⟩ = some (.bool x.hard)) (first | exact ⟨y8, y4, yr, x0, x1, x2, x3, x4, x5, x6, x7⟩ | exact ⟨u8, u4, ur, u0, u1, u2, u3, u5, u6, u7, u9⟩) (first | (go_at_call 110; refine CC.mono ?_; rintro e w5 ⟨rfl, hb⟩; have hb5 := (below_drew w4).trans (hb.mono (Nat.le_refl _)); have u8 := (hb5.cell HLT.out.2.1).trans y8; have u4 := (hb5.cell HLT.out.2.1).trans y4; have ur := (hb5.cell HLT.out.2.2).trans yr; have u0 := (hb5.cell HLT.out.1).trans x0; have u1 := (hb5.cell HLT.out.1).trans x1; have u2 := (hb5.cell HLT.out.1).trans x2; have u3 := (hb5.cell HLT.out.1).trans x3; have u5 := (hb5.cell HLT.out.1).trans x4; have u6 := (hb5.cell HLT.out.1).trans x5; have u7 := (hb5.cell HLT.out.1).trans x6; have u9 := (hb5.cell HLT.out.1).trans x7))
          have HB5 := Lib.hid (HB4.out.trans (hb5.mono HB4.out.size))
          have O5 := own_below HO4.out hb5
          have h5 := HH4.out.down hb5
          clear hw3 hw4 hw5 hw6 CC HB4 HO4 HH4 HLT hb5 hb y8 y4 yr x0 x1 x2 x3 x4 x5 x6 x7 u8 u4 ur u0 u1 u2 u3 u5 u7 u9
          cases q with
          | true =>
            obtain ⟨x0, hx0⟩ : ∃ x0, l[0]? = some x0 := by
              have : l.length = m := by have := O5.1; simpa using this
              exact ⟨_, List.getElem?_eq_getElem (by omega)⟩
            have CD := decide_is (HB2.out.trans (HB5.out.mono HB2.out.size)) h5 HO.out HG.out HN.out HYN.out (HLM.out y HYL.out).2 O5 (fun u hu => (HLM.out u (HLM1.out u hu)).1) hx0 (HLM.out x0 (HLM1.out x0 (List.mem_of_getElem? hx0))).2 HBS.out (v := z) (by have := HZ.out; have := HMM.out; have := HLL.out; omega)
            rw [HYM.out] at CD
            clear h5 O5 hx0 u6
            go_wp2_with (go_at_call 146; refine CD.mono ?_; rintro e w6 ⟨rfl, s', av, h6, ok6, hw6, b6⟩; have HH6 := Lib.hid h6; have HOK6 := Lib.hid ok6; have HW6 := Lib.hid hw6; have HB6 := Lib.hid b6; clear h6 ok6 hw6 b6)
            go_ret
            exact ⟨true, rfl, s', av, HH6.out, HOK6.out, fun _ => HW6.out, HB6.out⟩
          | false =>
            have x5 : w5.cell? ⟨X, 5, none⟩ = some (.int .i64 x.val) := u6
            clear h5 u6
            have ba6 := (Below.refl (w5).heap.size (w5)).alloc (Nat.le_refl _) (.cells #[.int .i64 y] 3)
            have O6 := own_below O5 ba6
            have x56 := (ba6.cell (World.block_lt_of_cell? _ _ x5)).trans x5
            have hX6 := World.block_lt_of_cell? _ _ x56
            have hsz6 : w2.heap.size ≤ ((w5).alloc (.cells #[.int .i64 y] 3)).heap.size := Nat.le_trans HB5.out.size ba6.size
            have B6 := Lib.hid (HB5.out.alloc HB5.out.size (.cells #[.int .i64 y] 3))
            have HX6 := Lib.hid hX6
            have HX56 := Lib.hid x56
            clear ba6 x56 hX6
            go_wp2_with (at_builtin; refine wpList_append_has rfl (.tmp 53) (.tmp 55) 23 rfl i0 _ 8 Tryz.underlying23 hI0 hz0 hz1 hz2 rfl (by decide) rfl O6 (some ⟨(w5).heap.size, 0, none⟩) 1 1 [.int .i64 y] rfl (Has.box (w5) 3 1 1 [.int .i64 y] rfl (by unfold maxLen; omega)) (iv_one [y]) (by have := HMM.out; unfold maxLen; omega) (by have := HMM.out; omega) hsz6 ?_; intro v6 w6 own6 g6 at6; have z5 : w6.cell? ⟨X, 5, none⟩ = some (.int .i64 x.val) := by { rw [World.cell?_of_block (a := ⟨X, 5, none⟩) (g6.block X HX6.out (fun e => HNX.out e.symm))]; exact HX56.out }; obtain ⟨A6, c6, hv6⟩ := own_shape own6; subst hv6; have OWN6 := Lib.hid own6; have KG := Lib.hid (keeps_grown (w0 := w2) (S := fun _ => False) (Keeps.of_below B6.out) g6 (fun g hg => .inr (HGO.out g (ob_mem.2 hg)).1)); clear own6 g6 at6)
            go_roundw
            case rel => exact ⟨k + 1, m + 1, z + x.val, l ++ [y], by omega, by simp, by simp, HZN.out, by rw [List.map_append]; exact OWN6.out, by have := HMM.out; omega, HLN.out, KG.out.below (fun _ _ h => h)⟩
            case measure => simp [intOf]; omega
    · have hlti : ¬ (k : Int) < (L.length : Int) := by omega
      have HB1 := Lib.hid B
      clear O B hlm
      go_wp2_with fail
      go_ret
      exact ⟨false, rfl, s, d.av, HH2.out.down HB1.out, HO.out, (fun h => by cases h), HB2.out.trans (HB1.out.mono HB2.out.size)⟩
end
end Dv
end Go.Proofs.YtbgiegecfapmlaaGreatDoor

namespace Go.Proofs.YtbgiegecfapmlaaGreatDoor
open Go.RowKit
set_option linter.unusedVariables false
set_option linter.unusedSimpArgs false
namespace Dv
open Rob (own_below own_block_lt ob_mem blk_below below_drew J fc iv fc_len Goods relAt Fresh Turn infoI iv_one)
open Job (jc jv)
section
variable {w0 w w' : World} {d : Adr} {js : List J} {od : List Int} {s : St} {now : Int} {a : Nat}
theorem ran_set (s : St) (i j : Nat) (v : Int) : ranAt { s with ran := s.ran.set i v } j = v ∨ ranAt { s with ran := s.ran.set i v } j = ranAt s j := by
  unfold ranAt
  show (s.ran.set i v).getD j 0 = v ∨ (s.ran.set i v).getD j 0 = s.ran.getD j 0
  rw [List.getD_eq_getElem?_getD, List.getD_eq_getElem?_getD, List.getElem?_set]
  split
  · split
    · exact .inl rfl
    · rename_i h1 h2
      subst h1
      right
      rw [List.getElem?_eq_none (by omega)]
  · exact .inr rfl
theorem ran_set_self (s : St) (i : Nat) (v : Int) (h : i < s.ran.length) : ranAt { s with ran := s.ran.set i v } i = v := by
  unfold ranAt
  show (s.ran.set i v).getD i 0 = v
  rw [List.getD_eq_getElem?_getD, List.getElem?_set_self h]
  rfl
set_option maxRecDepth 100000 in
set_option maxHeartbeats 8000000 in
theorem run_is (T : Tabs w0) (hB : Below w0.heap.size w0 w) (h : At w0.heap.size w d js od s now) (ho : Ok js a 12 s) (hg : Goods js) (ha : a ≤ 20000) (hnow : 0 ≤ now ∧ now ≤ 90000) :
    Calls Tryz.prog 116 #[.pointer (some ⟨d.p, 0, none⟩)] w fun e w' => e = .returned (.tuple #[]) ∧ ∃ s' tv, At w0.heap.size w' (d.putT tv) js od s' now ∧ Ok js (a + 1) 12 s' ∧ Below w0.heap.size w0 w' := by
  obtain ⟨i0, hI0, hz0, hz1, hz2⟩ := infoI
  have CL := lives_is h
  have hLm : ∀ x ∈ lives js s now od, 0 ≤ x ∧ x < js.length := fun x hx => h.od x (lives_mem hx).1
  generalize lives js s now od = L at *
  obtain ⟨AT, cT, htv⟩ := own_shape h.T
  have hn12 := h.n12
  have H := Lib.hid h
  have HB := Lib.hid hB
  have HO := Lib.hid ho
  have HG := Lib.hid hg
  have HN := Lib.hid hnow
  have HT := Lib.hid T
  have HA := Lib.hid ha
  have HTV := Lib.hid htv
  have HLM := Lib.hid hLm
  clear h hB ho hg hnow T ha hLm htv
  go_enter Tryz.func116, Tryz.ntmps116
  go_upto_region 2 with (go_at_call 144; refine CL.mono ?_; rintro e w2 ⟨v, rfl, hL, b2⟩; obtain ⟨AL, cL, hv⟩ := own_shape hL; subst hv; have HHL := Lib.hid hL; have HBB2 := Lib.hid b2; clear hL b2)
  have H2 := Lib.hid (H.out.down HBB2.out)
  have HB2 := Lib.hid (HB.out.trans (HBB2.out.mono HB.out.size))
  clear CL H HB HBB2
  cases L with
  | nil =>
    clear HHL
    simp only [List.length_nil]
    go_upto_region 4 with fail
    have b5 : w2.cell? ⟨d.p, 5, none⟩ = some (.slice AT s.tr.length cT) := by have := H2.out.B.cellAt (i := 5) rfl; rw [HTV.out] at this; exact this
    have O3 : (w2.alloc (.cells #[.int .i64 (-1)] 3)).ownsRow w0.heap.size 3 1 (.slice AT s.tr.length cT) s.tr.length (s.tr.map iv) := by
      have := own_below H2.out.T ((Below.refl w2.heap.size w2).alloc (Nat.le_refl _) (.cells #[.int .i64 (-1)] 3))
      rw [HTV.out] at this
      exact this
    have hsz3 := Nat.le_trans HB2.out.size (show w2.heap.size ≤ (w2.alloc (.cells #[.int .i64 (-1)] 3)).heap.size by simp)
    have hlen : s.tr.length ≤ 20000 := by have := HO.out.tr; have := HA.out; omega
    have hnp := Lib.hid (fun e : (Value.slice AT s.tr.length cT).ownBlock = some d.p => (H2.out.apt.o d.p (by simp only [List.mem_append]; rw [HTV.out]; exact .inl (.inl (ob_mem.2 e)))).1 rfl)
    go_upto_region 5 with (at_builtin; refine wpList_append_has rfl (.tmp 18) (.tmp 20) 23 rfl i0 _ 8 Tryz.underlying23 hI0 hz0 hz1 hz2 rfl (by decide) rfl O3 (some ⟨w2.heap.size, 0, none⟩) 1 1 [.int .i64 (-1)] rfl (Has.box w2 3 1 1 [.int .i64 (-1)] rfl (by unfold maxLen; omega)) (iv_one [(-1)]) (by unfold maxLen; omega) (by omega) hsz3 ?_; intro v6 w6 own6 g6 at6; have BP6 := (H2.out.B.alloc (.cells #[.int .i64 (-1)] 3)).grown g6 hnp.out; have f6 := BP6.frozen; have d6 := BP6.cellAt (i := 5) rfl; obtain ⟨A6, c6, hv6⟩ := own_shape own6; subst hv6; have OWN6 := Lib.hid own6; have G6 := Lib.hid g6; have AT6 := Lib.hid at6; have HP6 := Lib.hid BP6; clear own6 g6 at6 BP6 O3)
    have K6 : Keeps (Turn d.p d.tv) w2 w6 := keeps_grown ((Keeps.refl _ w2).alloc _) G6.out (fun g hg => .inl (.inr (by rw [HTV.out]; exact hg)))
    have K7 := K6.setCell ⟨d.p, 5, none⟩ (.inl (show Turn _ _ d.p from .inl rfl)) (.slice A6 (s.tr.length + 1) c6)
    have hp2 : d.p < w2.heap.size := H2.out.lt d.p (by simp [Adr.blocks])
    have hne6 : (Value.slice A6 (s.tr.length + 1) c6).ownBlock ≠ some d.p := by
      rcases AT6.out with e | e
      · rw [e]; exact hnp.out
      · rw [e]; intro e2
        have := Option.some.inj e2
        simp at this
        omega
    have hS := own_kept OWN6.out ((keep1 d.p w6).setCell ⟨d.p, 5, none⟩ (.inl rfl) (.slice A6 (s.tr.length + 1) c6)) (fun g _ _ hg e => hne6 (by rw [hg, e]))
    have hS' : (w6.setCell ⟨d.p, 5, none⟩ (.slice A6 (s.tr.length + 1) c6)).ownsRow w0.heap.size 3 1 (.slice A6 (s.tr.length + 1) c6) (s.tr ++ [(-1)]).length ((s.tr ++ [(-1)]).map iv) := by
      rw [List.length_append, List.map_append]; exact hS
    have h3 : At w0.heap.size (w6.setCell ⟨d.p, 5, none⟩ (.slice A6 (s.tr.length + 1) c6)) (d.putT (.slice A6 (s.tr.length + 1) c6)) js od { s with tr := s.tr ++ [(-1)] } now :=
      H2.out.trs HB2.out.size K7 (Fresh.of (by rw [HTV.out]; exact AT6.out) (by simp)) (HP6.out.set_ 5 _) hS'
    have B3 := below_keeps HB2.out K7 HB2.out.size (fun b hb => by
      rcases hb with rfl | hb
      · exact H2.out.ge _ (by simp [Adr.blocks])
      · exact H2.out.ge b (by simp only [Adr.blocks, List.mem_cons, List.mem_append]; exact .inr (.inr (.inr (.inl (.inl (ob_mem.2 hb)))))))
    have ok3 : Ok js (a + 1) 12 { s with tr := s.tr ++ [(-1)] } := ⟨fun i => by have := HO.out.ran i; show 0 ≤ ranAt s i ∧ ranAt s i ≤ _; omega, by have := HO.out.tr; simp; omega, HO.out.al⟩
    have hrn : ∀ i, ranAt { s with tr := s.tr ++ [(-1)] } i = ranAt s i := fun _ => rfl
    have HOK3 := Lib.hid ok3
    have H3 := Lib.hid h3
    have HB3 := Lib.hid B3
    have HRN := Lib.hid hrn
    clear K6 K7 hp2 hne6 hS hS' OWN6 G6 AT6 HP6 f6 d6 b5 hsz3 hlen hnp H2 HB2 h3 B3 ok3 hrn
    generalize w6.setCell ⟨d.p, 5, none⟩ (.slice A6 (s.tr.length + 1) c6) = w3 at *
    generalize Value.slice A6 (s.tr.length + 1) c6 = tv at *
    generalize ({ s with tr := s.tr ++ [(-1)] } : St) = s1 at *
    go_wp2_with fail
    first | go_ret | go_end0 | (refine bodyPost_ret (v := .tuple #[]) (results_none rfl _ _ _) rfl ?_) | (simp only [Exit.inBlock, Exit.then]; refine bodyPost_ret (results_none rfl _ _ _) rfl ?_)
    exact ⟨rfl, _, tv, H3.out, HOK3.out, HB3.out⟩
  | cons y L =>
    have hlen : L.length ≤ 9223372036854775806 := by have := (Has.of_own HHL.out).len; simp at this; omega
    obtain ⟨g, off2, hA2, hc⟩ := (Has.of_own HHL.out).at_ (by simp)
    have cy : w2.cell? ⟨g, off2, none⟩ = some (.int .i64 y) := by have := hc 0 _ rfl; rwa [Nat.add_zero] at this
    have hyb := HLM.out y (by simp)
    have hq1 : decide ((0 : Int) < ((L.length + 1 : Nat) : Int)) = true := decide_eq_true (by omega)
    have hq2 : (0 : Int) < (L.length : Int) + 1 := by omega
    rw [hA2]
    simp only [List.length_cons]
    clear hc HHL hA2
    go_upto_region 4 with fail
    obtain ⟨k, rfl⟩ := Int.eq_ofNat_of_zero_le hyb.1
    have hk : k < js.length := by omega
    have HK := Lib.hid hk
    clear cy hyb hq1 hq2 hlen hk
    have b5 : w2.cell? ⟨d.p, 5, none⟩ = some (.slice AT s.tr.length cT) := by have := H2.out.B.cellAt (i := 5) rfl; rw [HTV.out] at this; exact this
    have O3 : (w2.alloc (.cells #[.int .i64 (k : Int)] 3)).ownsRow w0.heap.size 3 1 (.slice AT s.tr.length cT) s.tr.length (s.tr.map iv) := by
      have := own_below H2.out.T ((Below.refl w2.heap.size w2).alloc (Nat.le_refl _) (.cells #[.int .i64 (k : Int)] 3))
      rw [HTV.out] at this
      exact this
    have hsz3 := Nat.le_trans HB2.out.size (show w2.heap.size ≤ (w2.alloc (.cells #[.int .i64 (k : Int)] 3)).heap.size by simp)
    have hlen : s.tr.length ≤ 20000 := by have := HO.out.tr; have := HA.out; omega
    have hnp := Lib.hid (fun e : (Value.slice AT s.tr.length cT).ownBlock = some d.p => (H2.out.apt.o d.p (by simp only [List.mem_append]; rw [HTV.out]; exact .inl (.inl (ob_mem.2 e)))).1 rfl)
    go_upto_region 5 with (at_builtin; refine wpList_append_has rfl (.tmp 18) (.tmp 20) 23 rfl i0 _ 8 Tryz.underlying23 hI0 hz0 hz1 hz2 rfl (by decide) rfl O3 (some ⟨w2.heap.size, 0, none⟩) 1 1 [.int .i64 (k : Int)] rfl (Has.box w2 3 1 1 [.int .i64 (k : Int)] rfl (by unfold maxLen; omega)) (iv_one [(k : Int)]) (by unfold maxLen; omega) (by omega) hsz3 ?_; intro v6 w6 own6 g6 at6; have BP6 := (H2.out.B.alloc (.cells #[.int .i64 (k : Int)] 3)).grown g6 hnp.out; have f6 := BP6.frozen; have d6 := BP6.cellAt (i := 5) rfl; obtain ⟨A6, c6, hv6⟩ := own_shape own6; subst hv6; have OWN6 := Lib.hid own6; have G6 := Lib.hid g6; have AT6 := Lib.hid at6; have HP6 := Lib.hid BP6; clear own6 g6 at6 BP6 O3)
    have K6 : Keeps (Turn d.p d.tv) w2 w6 := keeps_grown ((Keeps.refl _ w2).alloc _) G6.out (fun g hg => .inl (.inr (by rw [HTV.out]; exact hg)))
    have K7 := K6.setCell ⟨d.p, 5, none⟩ (.inl (show Turn _ _ d.p from .inl rfl)) (.slice A6 (s.tr.length + 1) c6)
    have hp2 : d.p < w2.heap.size := H2.out.lt d.p (by simp [Adr.blocks])
    have hne6 : (Value.slice A6 (s.tr.length + 1) c6).ownBlock ≠ some d.p := by
      rcases AT6.out with e | e
      · rw [e]; exact hnp.out
      · rw [e]; intro e2
        have := Option.some.inj e2
        simp at this
        omega
    have hS := own_kept OWN6.out ((keep1 d.p w6).setCell ⟨d.p, 5, none⟩ (.inl rfl) (.slice A6 (s.tr.length + 1) c6)) (fun g _ _ hg e => hne6 (by rw [hg, e]))
    have hS' : (w6.setCell ⟨d.p, 5, none⟩ (.slice A6 (s.tr.length + 1) c6)).ownsRow w0.heap.size 3 1 (.slice A6 (s.tr.length + 1) c6) (s.tr ++ [(k : Int)]).length ((s.tr ++ [(k : Int)]).map iv) := by
      rw [List.length_append, List.map_append]; exact hS
    have h3 : At w0.heap.size (w6.setCell ⟨d.p, 5, none⟩ (.slice A6 (s.tr.length + 1) c6)) (d.putT (.slice A6 (s.tr.length + 1) c6)) js od { s with tr := s.tr ++ [(k : Int)] } now :=
      H2.out.trs HB2.out.size K7 (Fresh.of (by rw [HTV.out]; exact AT6.out) (by simp)) (HP6.out.set_ 5 _) hS'
    have B3 := below_keeps HB2.out K7 HB2.out.size (fun b hb => by
      rcases hb with rfl | hb
      · exact H2.out.ge _ (by simp [Adr.blocks])
      · exact H2.out.ge b (by simp only [Adr.blocks, List.mem_cons, List.mem_append]; exact .inr (.inr (.inr (.inl (.inl (ob_mem.2 hb)))))))
    have ok3 : Ok js (a + 1) 12 { s with tr := s.tr ++ [(k : Int)] } := ⟨fun i => by have := HO.out.ran i; show 0 ≤ ranAt s i ∧ ranAt s i ≤ _; omega, by have := HO.out.tr; simp; omega, HO.out.al⟩
    have hrn : ∀ i, ranAt { s with tr := s.tr ++ [(k : Int)] } i = ranAt s i := fun _ => rfl
    have HOK3 := Lib.hid ok3
    have H3 := Lib.hid h3
    have HB3 := Lib.hid B3
    have HRN := Lib.hid hrn
    clear K6 K7 hp2 hne6 hS hS' OWN6 G6 AT6 HP6 f6 d6 b5 hsz3 hlen hnp H2 HB2 h3 B3 ok3 hrn
    generalize w6.setCell ⟨d.p, 5, none⟩ (.slice A6 (s.tr.length + 1) c6) = w3 at *
    generalize Value.slice A6 (s.tr.length + 1) c6 = tv at *
    generalize ({ s with tr := s.tr ++ [(k : Int)] } : St) = s1 at *
    have hkm : ((k : Int) == -1) = false := by simp <;> omega
    have hkm2 : ¬ (k : Int) = -1 := by omega
    have hk0 : (0 : Int) ≤ (k : Int) := by omega
    have hk1 : (k : Int) < (js.length : Int) := by have := HK.out; omega
    have b4 : w3.cell? ⟨d.p, 4, none⟩ = some (.slice (some ⟨d.gr, 0, none⟩) js.length d.cr) := H3.out.B.cellAt (i := 4) rfl
    have cr : w3.cell? ⟨d.gr, k, none⟩ = some (.int .i64 (ranAt s1 k)) := H3.out.R.cellAt (ran_get H3.out HK.out)
    have fr : ∀ i, w3.frozen? ⟨d.gr, i, none⟩ = false := H3.out.R.frozen
    have hrr := HO.out.ran k
    rw [← HRN.out k] at hrr
    obtain ⟨h4, k4⟩ := H3.out.rset HK.out (ranAt s1 k + 1)
    have B4 : Below w0.heap.size w0 (w3.setCell ⟨d.gr, k, none⟩ (.int .i64 (ranAt s1 k + 1))) := below_keeps HB3.out k4 HB3.out.size (fun b hb => by rw [hb]; exact H3.out.ge _ (by simp [Adr.blocks, Adr.putT]))
    have ok4 : Ok js (a + 1) 12 { s1 with ran := s1.ran.set k (ranAt s1 k + 1) } := ⟨fun i => by
      rcases ran_set s1 k i (ranAt s1 k + 1) with e | e
      · rw [e]; omega
      · rw [e]; exact HOK3.out.ran i, HOK3.out.tr, HOK3.out.al⟩
    have hself := ran_set_self s1 k (ranAt s1 k + 1) (by rw [H3.out.lr]; exact HK.out)
    have haa := HA.out
    have hw1 : wrap64 (ranAt s1 k + 1) = ranAt s1 k + 1 := by unfold wrap64; omega
    have h4w : At w0.heap.size (w3.setCell ⟨d.gr, k, none⟩ (.int .i64 (ranAt s1 k + 1))) (d.putT tv) js od { s1 with ran := s1.ran.set k (ranAt s1 k + 1) } now := h4
    have H4 := Lib.hid h4w
    have HB4 := Lib.hid B4
    have HOK4 := Lib.hid ok4
    have HSELF := Lib.hid hself
    clear h4 h4w k4 B4 ok4 haa H3 HB3 hself HRN HOK3 hrr
    generalize hs2 : ({ s1 with ran := s1.ran.set k (ranAt s1 k + 1) } : St) = s2 at *
    generalize ranAt s1 k = r at *
    go_upto_region 7 with fail
    generalize w3.setCell ⟨d.gr, k, none⟩ (.int .i64 (r + 1)) = w4 at *
    clear b4 cr fr hw1 hs2 hkm hkm2
    obtain ⟨b, off, x, hA, hx, hbl, c0, c1, c2, c3, c4, c5, c6, c7⟩ := Job.cells8 H4.out.JR HK.out
    have e2 : w4.cell? ⟨d.p, 2, none⟩ = some (.slice d.Aj js.length d.cj) := H4.out.B.cellAt (i := 2) rfl
    have hA' : d.Aj = some ⟨b, off, none⟩ := hA
    rw [hA'] at e2
    have e4 : w4.cell? ⟨d.p, 4, none⟩ = some (.slice (some ⟨d.gr, 0, none⟩) js.length d.cr) := H4.out.B.cellAt (i := 4) rfl
    have er : w4.cell? ⟨d.gr, k, none⟩ = some (.int .i64 (ranAt s2 k)) := H4.out.R.cellAt (ran_get H4.out HK.out)
    rw [HSELF.out] at er
    have hgx := HG.out x (List.mem_of_getElem? hx)
    have HLT := Lib.hid (show d.p < w4.heap.size ∧ d.gr < w4.heap.size ∧ b < w4.heap.size from ⟨H4.out.B.lt, H4.out.R.lt, hbl⟩)
    have WC := Job.work_is x w4.drew (HT.out.below (HB4.out.trans ((below_drew w4).mono HB4.out.size))) hgx.2
    have HFL := Lib.hid (show k < s2.fs.length by rw [H4.out.lf]; exact HK.out)
    obtain ⟨wk, hwk⟩ : ∃ wk, Job.work x = wk := ⟨_, rfl⟩
    rw [hwk] at WC
    unfold jv at WC
    clear hA hA' hx hbl hgx hwk
    by_cases hw : r + 1 < wk
    · have hwd : decide (r + 1 < wk) = true := decide_eq_true hw
      go_region_held3 (fun W => W.cell? ⟨d.p, 4, none⟩ = some (.slice (some ⟨d.gr, 0, none⟩) js.length d.cr) ∧ W.cell? ⟨d.gr, k, none⟩ = some (.int .i64 (r + 1)) ∧ W.cell? ⟨d.p, 2, none⟩ = some (.slice (some ⟨b, off, none⟩) js.length d.cj) ∧ W.cell? ⟨b, off + k * 8, none⟩ = some (.string x.nm) ∧ W.cell? ⟨b, off + k * 8 + 1, none⟩ = some (.int .i64 x.rel) ∧ W.cell? ⟨b, off + k * 8 + 2, none⟩ = some (.int .i64 x.dl) ∧ W.cell? ⟨b, off + k * 8 + 3, none⟩ = some (.int .i64 x.bud) ∧ W.cell? ⟨b, off + k * 8 + 4, none⟩ = some (.int .i64 x.act) ∧ W.cell? ⟨b, off + k * 8 + 5, none⟩ = some (.int .i64 x.val) ∧ W.cell? ⟨b, off + k * 8 + 6, none⟩ = some (.int .i64 x.cln) ∧ W.cell? ⟨b, off + k * 8 + 7, none⟩ = some (.bool x.hard)) (first | exact ⟨e4, er, e2, c0, c1, c2, c3, c4, c5, c6, c7⟩ | exact ⟨y4, yr, y2, z0, z1, z2, z3, z4, z5, z6, z7⟩) (first | (go_at_call 69; refine WC.mono ?_; rintro e w5 ⟨rfl, hb⟩; have hb5 := (below_drew w4).trans (hb.mono (Nat.le_refl _)); have y4 := (hb5.cell HLT.out.1).trans e4; have yr := (hb5.cell HLT.out.2.1).trans er; have y2 := (hb5.cell HLT.out.1).trans e2; have z0 := (hb5.cell HLT.out.2.2).trans c0; have z1 := (hb5.cell HLT.out.2.2).trans c1; have z2 := (hb5.cell HLT.out.2.2).trans c2; have z3 := (hb5.cell HLT.out.2.2).trans c3; have z4 := (hb5.cell HLT.out.2.2).trans c4; have z5 := (hb5.cell HLT.out.2.2).trans c5; have z6 := (hb5.cell HLT.out.2.2).trans c6; have z7 := (hb5.cell HLT.out.2.2).trans c7))
      have h6 := Lib.hid (H4.out.down hb5)
      have B6 := Lib.hid (HB4.out.trans (hb5.mono HB4.out.size))
      clear hb hb5 WC y4 yr y2 z0 z1 z2 z3 z4 z5 z6 z7 e2 e4 er c0 c1 c2 c3 c4 c5 c6 c7
      go_wp2_with fail
      first | go_ret | go_end0 | (refine bodyPost_ret (v := .tuple #[]) (results_none rfl _ _ _) rfl ?_) | (simp only [Exit.inBlock, Exit.then]; refine bodyPost_ret (results_none rfl _ _ _) rfl ?_)
      exact ⟨rfl, _, tv, h6.out, HOK4.out, B6.out⟩
    · have hwd : decide (r + 1 < wk) = false := decide_eq_false hw
      go_region_held3 (fun W => W.cell? ⟨d.p, 4, none⟩ = some (.slice (some ⟨d.gr, 0, none⟩) js.length d.cr) ∧ W.cell? ⟨d.gr, k, none⟩ = some (.int .i64 (r + 1)) ∧ W.cell? ⟨d.p, 2, none⟩ = some (.slice (some ⟨b, off, none⟩) js.length d.cj) ∧ W.cell? ⟨b, off + k * 8, none⟩ = some (.string x.nm) ∧ W.cell? ⟨b, off + k * 8 + 1, none⟩ = some (.int .i64 x.rel) ∧ W.cell? ⟨b, off + k * 8 + 2, none⟩ = some (.int .i64 x.dl) ∧ W.cell? ⟨b, off + k * 8 + 3, none⟩ = some (.int .i64 x.bud) ∧ W.cell? ⟨b, off + k * 8 + 4, none⟩ = some (.int .i64 x.act) ∧ W.cell? ⟨b, off + k * 8 + 5, none⟩ = some (.int .i64 x.val) ∧ W.cell? ⟨b, off + k * 8 + 6, none⟩ = some (.int .i64 x.cln) ∧ W.cell? ⟨b, off + k * 8 + 7, none⟩ = some (.bool x.hard)) (first | exact ⟨e4, er, e2, c0, c1, c2, c3, c4, c5, c6, c7⟩ | exact ⟨y4, yr, y2, z0, z1, z2, z3, z4, z5, z6, z7⟩) (first | (go_at_call 69; refine WC.mono ?_; rintro e w5 ⟨rfl, hb⟩; have hb5 := (below_drew w4).trans (hb.mono (Nat.le_refl _)); have y4 := (hb5.cell HLT.out.1).trans e4; have yr := (hb5.cell HLT.out.2.1).trans er; have y2 := (hb5.cell HLT.out.1).trans e2; have z0 := (hb5.cell HLT.out.2.2).trans c0; have z1 := (hb5.cell HLT.out.2.2).trans c1; have z2 := (hb5.cell HLT.out.2.2).trans c2; have z3 := (hb5.cell HLT.out.2.2).trans c3; have z4 := (hb5.cell HLT.out.2.2).trans c4; have z5 := (hb5.cell HLT.out.2.2).trans c5; have z6 := (hb5.cell HLT.out.2.2).trans c6; have z7 := (hb5.cell HLT.out.2.2).trans c7))
      have H6 := Lib.hid (H4.out.down hb5)
      have HB6 := Lib.hid (HB4.out.trans (hb5.mono HB4.out.size))
      have CR := Job.runs_is x w5
      unfold jv at CR
      clear hb hb5 WC y4 yr e2 e4 er c0 c1 c2 c3 c4 c5 c6 c7 H4 HB4 HLT
      by_cases hab : x.act ≤ x.bud
      · rw [decide_eq_true hab] at CR
        go_upto_region 11 with (go_at_call 70; refine CR.mono ?_; rintro e w7 ⟨rfl, hb7⟩)
        have h7 := H6.out.down hb7
        have B7 := HB6.out.trans (hb7.mono HB6.out.size)
        have SI := say_is h7 HK.out 1 1 (by have := HN.out; omega)
        have hgf := Lib.hid (h7.ge d.gf (by simp [Adr.blocks, Adr.putT]))
        have HB7 := Lib.hid B7
        clear CR hb7 h7 B7 H6 HB6
        go_wp2_with fail
        refine SI.mono ?_
        rintro e w8 ⟨rfl, h8, k8⟩
        have HH8 := Lib.hid h8
        have B8 := Lib.hid (below_keeps HB7.out k8 HB7.out.size (fun b hb => by rw [hb]; exact hgf.out))
        clear h8 k8 SI
        go_wp2_with fail
        first | go_ret | go_end0 | (refine bodyPost_ret (v := .tuple #[]) (results_none rfl _ _ _) rfl ?_) | (simp only [Exit.inBlock, Exit.then]; refine bodyPost_ret (results_none rfl _ _ _) rfl ?_)
        exact ⟨rfl, _, tv, HH8.out, (HOK4.out.say (by decide) HFL.out).1, B8.out⟩
      · rw [decide_eq_false hab] at CR
        go_upto_region 11 with (go_at_call 70; refine CR.mono ?_; rintro e w7 ⟨rfl, hb7⟩)
        have h7 := H6.out.down hb7
        have B7 := HB6.out.trans (hb7.mono HB6.out.size)
        have SI := say_is h7 HK.out 2 1 (by have := HN.out; omega)
        have hgf := Lib.hid (h7.ge d.gf (by simp [Adr.blocks, Adr.putT]))
        have HB7 := Lib.hid B7
        clear CR hb7 h7 B7 H6 HB6
        go_wp2_with fail
        refine SI.mono ?_
        rintro e w8 ⟨rfl, h8, k8⟩
        have HH8 := Lib.hid h8
        have B8 := Lib.hid (below_keeps HB7.out k8 HB7.out.size (fun b hb => by rw [hb]; exact hgf.out))
        clear h8 k8 SI
        go_wp2_with fail
        first | go_ret | go_end0 | (refine bodyPost_ret (v := .tuple #[]) (results_none rfl _ _ _) rfl ?_) | (simp only [Exit.inBlock, Exit.then]; refine bodyPost_ret (results_none rfl _ _ _) rfl ?_)
        exact ⟨rfl, _, tv, HH8.out, (HOK4.out.say (by decide) HFL.out).1, B8.out⟩
end
end Dv
end Go.Proofs.YtbgiegecfapmlaaGreatDoor

namespace Go.Proofs.YtbgiegecfapmlaaGreatDoor
open Go.RowKit
set_option linter.unusedVariables false
set_option linter.unusedSimpArgs false
namespace Dl
open Rob (J fv fv_one nv nv_fins holds_nv sortf_of ins_none finsOf finsOf_map finsOf_len dlAt)
open Job (jc jv)
section
variable {js : List J}
/-- Earlier deadlines first. -/
def cfD (js : List J) (x y : Fin js.length) : Int := Lib.compareInt (dlAt js x.val) (dlAt js y.val)
/-- The library's insertion sort, by deadline. -/
def sortD (js : List J) (l : List Nat) : List Nat :=
  if h : 0 < js.length then
    haveI : Inhabited (Fin js.length) := ⟨⟨0, h⟩⟩
    (Go.Sort.insertionSort (ltOf (cfD js)) (finsOf js l).toArray 0 (finsOf js l).length).toList.map (·.val)
  else l
theorem ltD_is (x y : Fin js.length) : ltOf (cfD js) x y = decide (dlAt js x.val < dlAt js y.val) := by
  unfold ltOf cfD Lib.compareInt
  by_cases h1 : dlAt js x.val < dlAt js y.val
  · simp [h1]
  · by_cases h2 : dlAt js y.val < dlAt js x.val
    · simp [h1, h2]
    · simp [h1, h2]
theorem swoD : Go.Sort.SWO (ltOf (cfD js)) := by
  refine ⟨fun x => ?_, fun x y z => ?_, fun x y z => ?_⟩
  · rw [ltD_is]; simp
  · rw [ltD_is, ltD_is, ltD_is]; simp; omega
  · rw [ltD_is, ltD_is, ltD_is]; simp; omega
theorem sortD_key (I : Inhabited (Fin js.length)) (l : List Nat) (hl : ∀ x ∈ l, x < js.length) : ((Go.Sort.insertionSort (ltOf (cfD js)) (finsOf js l).toArray 0 (finsOf js l).length).toList.map (·.val)).Perm l := by
  have hP := (Go.Sort.insertionSort_holds swoD (finsOf js l).toArray 0 (finsOf js l).length (Nat.zero_le _) (by simp)).1
  generalize Go.Sort.insertionSort (ltOf (cfD js)) (finsOf js l).toArray 0 (finsOf js l).length = D at hP ⊢
  have hD : D.size = (finsOf js l).length := by rw [hP.1]; simp
  have := hP.2.2
  rw [show D.extract 0 (finsOf js l).length = D by rw [← hD]; simp, show (finsOf js l).toArray.extract 0 (finsOf js l).length = (finsOf js l).toArray by simp] at this
  have h2 := (this.map (·.val))
  simp only at h2
  rw [finsOf_map l hl] at h2
  exact h2
theorem sortD_perm (l : List Nat) (hl : ∀ x ∈ l, x < js.length) : (sortD js l).Perm l := by
  unfold sortD
  split
  · exact sortD_key _ l hl
  · exact List.Perm.refl _
set_option maxRecDepth 100000 in
set_option maxHeartbeats 4000000 in
theorem cmpD_is {W : World} {X : Nat} {Aj : Option Addr} {cj : Nat} (hX : W.cell? ⟨X, 0, none⟩ = some (.slice Aj js.length cj)) (R : Row jc 8 W Aj js.length js) (x y : Fin js.length) :
    Calls Tryz.prog 48 #[.int .i64 (x.val : Int), .int .i64 (y.val : Int), .pointer (some ⟨X, 0, none⟩)] W fun e w' => e = .returned (.int .i64 (cfD js x y)) ∧ ∃ q, w' = W.drewN q := by
  obtain ⟨b, off, jx, hA, hx, _, _, _, x2, _, _, _, _, _⟩ := Job.cells8 R x.isLt
  obtain ⟨b', off', jy, hA', hy, _, _, _, y2, _, _, _, _, _⟩ := Job.cells8 R y.isLt
  rw [hA] at hA'
  cases hA'
  subst hA
  have e1 : dlAt js x.val = jx.dl := by unfold Rob.dlAt; rw [hx]; rfl
  have e2 : dlAt js y.val = jy.dl := by unfold Rob.dlAt; rw [hy]; rfl
  unfold cfD
  rw [e1, e2]
  have i0 : (0 : Int) ≤ (x.val : Int) := by omega
  have i1 : (x.val : Int) < (js.length : Int) := by have := x.isLt; omega
  have j0 : (0 : Int) ≤ (y.val : Int) := by omega
  have j1 : (y.val : Int) < (js.length : Int) := by have := y.isLt; omega
  clear R hx hy e1 e2
  generalize x.val = i at *
  generalize y.val = j at *
  generalize js.length = n at *
  go_enter Tryz.func48, Tryz.ntmps48
  go_wp2_with fail
  go_quiet ((go_at_call 49; refine Calls.quiet_of_same (Tryz.cmp_Compare_int _ _ _)))
  go_wp2_with fail
  go_ret
  exact ⟨rfl, _, rfl⟩
theorem ins_D [Inhabited (Fin js.length)] (X : Nat) (w : World) (g off c n : Nat) {l : List Nat} {Aj : Option Addr} {cj : Nat} (h : Has w 3 1 (.slice (some ⟨g, off, none⟩) n c) n (nv l)) (hl : ∀ x ∈ l, x < js.length) (hn : n < 20)
    (hX : w.cell? ⟨X, 0, none⟩ = some (.slice Aj js.length cj)) (R : Row jc 8 w Aj js.length js) (gX : g ≠ X) (gA : ∀ a, Aj = some a → g ≠ a.block) :
    Calls Tryz.prog 121 #[.slice (some ⟨g, off, none⟩) n c, .int .i64 0, .int .i64 (n : Int), .func (.func 48) #[] #[.pointer (some ⟨X, 0, none⟩)]] w fun e w' =>
      e = .returned (.tuple #[]) ∧ Has w' 3 1 (.slice (some ⟨g, off, none⟩) n c) n ((Go.Sort.insertionSort (ltOf (cfD js)) (finsOf js l).toArray 0 (finsOf js l).length).toList.map fv) ∧ Keeps (· = g) w w' := by
  have hH := holds_nv h hl
  have hln : l.length = n := by have := h.1; simpa [nv] using this
  have hfl := finsOf_len l hl
  have hsz : (finsOf js l).toArray.size = n := by simp [hfl, hln]
  have C := Any.insertionSortCmpFunc_one Tryz.laysInsI fv fv_one (cfD js) 48 #[.pointer (some ⟨X, 0, none⟩)] g off c 0 n (finsOf js l).toArray w
    (enters_of Tryz.func48 (by kernel_rfl) rfl) (fun m os dk _ x y => by
      have K := keeps_sort1 fv w g off m dk os
      have hXl := World.block_lt_of_cell? w _ hX
      have c1 : (sortWorld fv w g off m dk os).cell? ⟨X, 0, none⟩ = some (.slice Aj js.length cj) := by
        rw [World.cell?_of_block (a := ⟨X, 0, none⟩) (K.block X hXl (fun e => gX e.symm))]; exact hX
      exact cmpD_is c1 (Rob.Row.kept' R K (fun a ha e => gA a ha e.symm)) x y) hH (Nat.zero_le _) (by omega) (by omega)
  rw [hsz] at C
  rw [hfl, hln]
  refine C.mono ?_
  rintro e w' ⟨rfl, q, rfl⟩
  refine ⟨rfl, ?_, keeps_put _ _ _ _ _ _⟩
  have hPs := (Go.Sort.insertionSort_holds swoD (finsOf js l).toArray 0 n (Nat.zero_le _) (by omega)).1.1
  generalize Go.Sort.insertionSort (ltOf (cfD js)) (finsOf js l).toArray 0 n = D at *
  have hDl : D.toList.length = n := by simp [hPs, hsz]
  refine ⟨by simp [hDl], .inr ?_⟩
  rcases h.2 with ⟨h0, _⟩ | ⟨g', off', cap, cur, hv, hnc, hcm, hg, hc⟩
  · cases h0
  · cases hv
    refine ⟨g, off, c, Go.Sort.putCells fv off D cur, rfl, hnc, hcm, ?_, fun j u hu => ?_⟩
    · show (w.heap.modify g (Go.Sort.onCells (Go.Sort.putCells fv off D)))[g]? = _
      rw [Array.getElem?_modify, if_pos rfl, hg]
      rfl
    · have hj : j < n := by have := (List.getElem?_eq_some_iff.1 hu).1; simpa [hDl] using this
      have hj2 : j < (nv l).length := by simpa [nv, hln] using hj
      have := hc j _ (List.getElem?_eq_getElem hj2)
      have hlt := (Array.getElem?_eq_some_iff.1 this).1
      unfold Go.Sort.putCells
      rw [Array.getElem?_mapIdx, this]
      have hDj : j < D.size := by simpa using (show j < D.toList.length by omega)
      rw [List.getElem?_map, List.getElem?_eq_getElem (by simpa using hDj)] at hu
      simp only [Option.map_some, Option.some.injEq] at hu ⊢
      rw [if_pos ⟨by omega, by omega⟩, ← hu, Nat.add_sub_cancel_left, getElem!_pos D j hDj]
      simp
/-- The sort that 'again' asks for: by value, the greatest first. -/
theorem sortD_is {base : Nat} (X : Nat) (w : World) {v : Value} {n : Nat} {l : List Nat} {Aj : Option Addr} {cj : Nat} (h : w.ownsRow base 3 1 v n (nv l)) (hl : ∀ x ∈ l, x < js.length) (hn : n < 20)
    (hX : w.cell? ⟨X, 0, none⟩ = some (.slice Aj js.length cj)) (R : Row jc 8 w Aj js.length js) (gX : v.ownBlock ≠ some X) (gA : ∀ a, Aj = some a → v.ownBlock ≠ some a.block) :
    Calls Tryz.prog 47 #[v, .func (.func 48) #[] #[.pointer (some ⟨X, 0, none⟩)]] w fun e w' =>
      e = .returned (.tuple #[]) ∧ Has w' 3 1 v n (nv (sortD js l)) ∧ Keeps (fun b => v.ownBlock = some b) w w' := by
  have hln : l.length = n := by have := h.1; simpa [nv] using this
  rcases h.2 with ⟨rfl, rfl⟩ | ⟨g, cap, cur, rfl, hb, hg, hnc, hcm, hcs, htake⟩
  · have hl0 : l = [] := List.length_eq_zero_iff.1 hln
    subst hl0
    refine (sortf_of (by omega) (ins_none w none 0 _)).mono ?_
    rintro e w' ⟨rfl, rfl⟩
    have e : sortD js [] = [] := List.eq_nil_of_length_eq_zero (by have := (sortD_perm (js := js) [] (by simp)).length_eq; simpa using this)
    rw [e]
    exact ⟨rfl, Has.nil _ _ _, Keeps.refl _ _⟩
  · by_cases h0 : 0 < js.length
    · have hne : ∀ b, (fun b => (Value.slice (some ⟨g, 0, none⟩) n cap).ownBlock = some b) b ↔ b = g := fun b => ⟨fun e => (Option.some.inj e).symm, fun e => by rw [e]; rfl⟩
      have C := @ins_D js ⟨⟨0, h0⟩⟩ X w g 0 cap n l Aj cj (Has.of_own h) hl hn hX R (fun e => gX (by rw [← e]; rfl)) (fun a ha e => gA a ha (by rw [← e]; rfl))
      refine (sortf_of hn C).mono ?_
      rintro e w' ⟨rfl, h1, h2⟩
      refine ⟨rfl, ?_, ⟨h2.os, h2.tape, h2.output, h2.size, fun i hi hni => h2.block i hi (fun e => hni ((hne i).2 e))⟩⟩
      unfold sortD
      rw [dif_pos h0, nv_fins]
      exact h1
    · have hl0 : l = [] := by
        cases l with
        | nil => rfl
        | cons x l => exact absurd (hl x (by simp)) (by omega)
      subst hl0
      have hn0 : n = 0 := by simpa using hln.symm
      subst hn0
      refine (sortf_of (by omega) (ins_none w _ cap _)).mono ?_
      rintro e w' ⟨rfl, rfl⟩
      refine ⟨rfl, ?_, Keeps.refl _ _⟩
      have e : sortD js [] = [] := by unfold sortD; rw [dif_neg h0]
      rw [e]
      exact Has.of_own h
end
end Dl
end Go.Proofs.YtbgiegecfapmlaaGreatDoor

namespace Go.Proofs.YtbgiegecfapmlaaGreatDoor
open Go.RowKit
set_option linter.unusedVariables false
set_option linter.unusedSimpArgs false
namespace Dl
open Rob (J nv own_below own_block_lt ob_mem blk_below below_drew iv makes_ints)
open Job (jc jv)
/-- Places, the first k of them written. -/
def fillTo (n k : Nat) : List Nat := (List.range n).map fun i => if i < k then i else 0
theorem fillTo_len (n k : Nat) : (fillTo n k).length = n := by unfold fillTo; simp
theorem fillTo_zero (n : Nat) : nv (fillTo n 0) = (List.replicate n (0 : Int)).map iv := by
  unfold nv fillTo
  refine List.ext_getElem? fun i => ?_
  by_cases h : i < n
  · simp [List.getElem?_range, h, List.getElem?_replicate, iv]
  · simp [h]
theorem fillTo_all (n : Nat) : fillTo n n = List.range n := by
  unfold fillTo
  refine List.ext_getElem? fun i => ?_
  by_cases h : i < n
  · simp [List.getElem?_range, h]
  · simp [h]
theorem fillTo_next {n k : Nat} (h : k < n) : (nv (fillTo n k)).set k (.int .i64 (k : Int)) = nv (fillTo n (k + 1)) := by
  unfold nv fillTo
  refine List.ext_getElem? fun i => ?_
  rw [List.getElem?_set]
  by_cases e : k = i
  · subst e; simp [h]
  · rw [if_neg e]
    by_cases hi : i < n
    · simp only [List.getElem?_map, List.getElem?_range, hi, if_true, Option.map_some]
      by_cases h1 : i < k
      · rw [if_pos h1, if_pos (by omega)]
      · rw [if_neg h1, if_neg (by omega)]
    · simp [hi]
section
variable {w w' : World} {js : List J} {A : Option Addr} {c : Nat}
/-- All places, by deadline. -/
def ord (js : List J) : List Nat := sortD js (List.range js.length)
theorem ord_mem (js : List J) : ∀ x ∈ ord js, x < js.length := fun x hx => by
  have := ((sortD_perm (js := js) (List.range js.length) (fun y hy => List.mem_range.1 hy)).mem_iff (a := x)).1 hx
  exact List.mem_range.1 this
theorem ord_len (js : List J) : (ord js).length = js.length := by
  have := (sortD_perm (js := js) (List.range js.length) (fun y hy => List.mem_range.1 hy)).length_eq
  unfold ord
  rw [this, List.length_range]
set_option maxRecDepth 100000 in
set_option maxHeartbeats 4000000 in
theorem by_is (R : Row jc 8 w A js.length js) (hAl : ∀ a, A = some a → a.block < w.heap.size) (hn : js.length ≤ 12) :
    Calls Tryz.prog 19 #[.slice A js.length c] w fun e w' => ∃ g, e = .returned (.slice (some ⟨g, 0, none⟩) js.length js.length) ∧ Has w' 3 1 (.slice (some ⟨g, 0, none⟩) js.length js.length) js.length (nv (ord js)) ∧ w.heap.size ≤ g ∧ g < w'.heap.size ∧ Below w.heap.size w w' := by
  have bX := (Below.refl w.heap.size w).alloc (Nat.le_refl _) (.cells #[.slice A js.length c] 22)
  have XX := Blk.new w 22 [.slice A js.length c]
  have R1 := Row.below R bX
  obtain ⟨Z, hZ⟩ : ∃ Z, Z = (List.replicate js.length (0 : Int)).map iv := ⟨_, rfl⟩
  obtain ⟨Za, hZa⟩ : ∃ Za, Za = Z.toArray := ⟨_, rfl⟩
  have hmI := fun W => makes_ints js.length (by omega) W
  rw [← hZ, ← hZa] at hmI
  have HZ := Lib.hid hZ
  have HZa := Lib.hid hZa
  have HB := Lib.hid bX
  have HX := Lib.hid XX
  have HR := Lib.hid R1
  have HA := Lib.hid hAl
  have HXL := Lib.hid (show w.heap.size < (w.alloc (.cells #[.slice A js.length c] 22)).heap.size by simp)
  clear bX XX R1 hZ hZa R hAl
  go_enter Tryz.func19, Tryz.ntmps19
  go_upto_region 1 with fail
  simp only [List.toArray] at HX
  generalize w.alloc (.cells #[.slice A js.length c] 22) = w1 at *
  have x0 : w1.cell? ⟨w.heap.size, 0, none⟩ = some (.slice A js.length c) := HX.out.cellAt (i := 0) rfl
  have ba := (Below.refl w1.heap.size w1).alloc (Nat.le_refl _) (.cells Za 3)
  have G2 : Blk (w1.alloc (.cells Za 3)) w1.heap.size 3 (nv (fillTo js.length 0)) := by rw [fillTo_zero, HZa.out, HZ.out]; exact Blk.new w1 3 _
  have X2 := blk_below HX.out ba
  have R2 := Row.below HR.out ba
  have B2 := HB.out.trans (ba.mono HB.out.size)
  have HG2 := Lib.hid G2
  have HX2 := Lib.hid X2
  have HR2 := Lib.hid R2
  have HB2 := Lib.hid B2
  clear ba G2 X2 R2 B2
  go_upto_region 2 with fail
  generalize w1.alloc (.cells Za 3) = w2 at *
  have HGL := Lib.hid (show w.heap.size < w1.heap.size ∧ w1.heap.size < w2.heap.size from ⟨HXL.out, HG2.out.lt⟩)
  clear x0 HXL hmI HZ HZa
  generalize w1.heap.size = g at *
  clear HX HR HB
  go_wp2_with fail
  go_loopw [10] (fun i wr => ∃ k : Nat, k ≤ js.length ∧ i = .int .i64 (k : Int) ∧ Blk wr g 3 (nv (fillTo js.length k)) ∧ Keeps (· = g) w2 wr) (fun i _ => js.length - (intOf i).toNat)
  case atStart => exact ⟨0, by omega, rfl, HG2.out, Keeps.refl _ _⟩
  case round =>
    obtain ⟨k, hk, rfl, hG, hK⟩ := hrel
    by_cases hlt : k < js.length
    · have hlti : (k : Int) < (js.length : Int) := by omega
      have hk0 : (0 : Int) ≤ (k : Int) := by omega
      have hk1 : (k : Int) + 1 ≤ 9223372036854775807 := by omega
      obtain ⟨u, hu⟩ : ∃ u : Nat, (fillTo js.length k)[k]? = some u := ⟨_, List.getElem?_eq_getElem (by rw [fillTo_len]; exact hlt)⟩
      have cu : wr.cell? ⟨g, k, none⟩ = some (.int .i64 (u : Int)) := hG.cellAt (by unfold nv; rw [List.getElem?_map, hu]; rfl)
      have fz := hG.frozen
      have hnx := hG.set_ k (.int .i64 (k : Int))
      rw [fillTo_next hlt] at hnx
      have hK2 := hK.setCell ⟨g, k, none⟩ (.inl rfl) (.int .i64 (k : Int))
      have HNX := Lib.hid hnx
      have HK2 := Lib.hid hK2
      clear hnx hK2 hG hK hu
      go_wp2_with fail
      go_roundw
      case rel => exact ⟨k + 1, by omega, by simp, HNX.out, HK2.out⟩
      case measure => simp [intOf]; omega
    · have hlti : ¬ (k : Int) < (js.length : Int) := by omega
      have hkn : k = js.length := by omega
      subst hkn
      rw [fillTo_all] at hG
      have hgl := HGL.out
      have hX3 := HX2.out.kept hK (fun e => by omega)
      have x3 : wr.cell? ⟨w.heap.size, 0, none⟩ = some (.slice A js.length c) := hX3.cellAt (i := 0) rfl
      have R3 := Rob.Row.kept' HR2.out hK (fun a ha e => by have := HA.out a ha; omega)
      have hO : wr.ownsRow w2.heap.size 3 1 (.slice (some ⟨g, 0, none⟩) js.length js.length) js.length (nv (List.range js.length)) ∨ True := .inr trivial
      have hOwn : wr.ownsRow 0 3 1 (.slice (some ⟨g, 0, none⟩) js.length js.length) js.length (nv (List.range js.length)) :=
        ⟨by simp [nv], .inr ⟨g, js.length, (nv (List.range js.length)).toArray, rfl, Nat.zero_le _, hG, Nat.le_refl _, by unfold maxLen; omega, by simp [nv], by rw [List.take_of_length_le (by simp [nv])]⟩⟩
      have CS := sortD_is w.heap.size wr hOwn (fun x hx => List.mem_range.1 hx) (by omega) x3 R3 (fun e => by have := Option.some.inj e; simp at this; omega) (fun a ha e => by have h1 := HA.out a ha; have h2 := Option.some.inj e; simp at h2; omega)
      have HK3 := Lib.hid hK
      clear hO hOwn hX3 R3 hG hK x3
      go_wp2_with (go_at_call 47; refine CS.mono ?_; rintro e w4 ⟨rfl, h4, k4⟩; have HH4 := Lib.hid h4; have HK4 := Lib.hid k4; clear h4 k4)
      go_ret
      have K4 : Keeps (· = g) w2 w4 := HK3.out.trans HK4.out (fun b _ e => (Option.some.inj e).symm)
      exact ⟨g, rfl, HH4.out, by omega, by have := K4.size; omega, below_keeps HB2.out K4 HB2.out.size (fun b e => by omega)⟩
end
end Dl
end Go.Proofs.YtbgiegecfapmlaaGreatDoor

namespace Go.Proofs.YtbgiegecfapmlaaGreatDoor
open Go.RowKit
set_option linter.unusedVariables false
set_option linter.unusedSimpArgs false
namespace Dv
open Rob (own_below own_block_lt ob_mem blk_below below_drew J fc iv fc_len Goods relAt Fresh Turn infoI iv_one nv makes_ints makes_fates clone_jobs eend_bd own_base)
open Job (jc jv)
open Dl (ord by_is ord_mem ord_len)
section
variable {base : Nat} {w0 w w' : World} {d : Adr} {js : List J} {s : St} {now : Int} {a : Nat}
/-- All places, by deadline. -/
def ods (js : List J) : List Int := (ord js).map fun x : Nat => (x : Int)
theorem nv_ods (js : List J) : nv (ord js) = (ods js).map iv := by unfold ods nv; rw [List.map_map]; rfl
theorem ods_len (js : List J) : (ods js).length = js.length := by unfold ods; rw [List.length_map, ord_len]
theorem row_ods {g : Nat} (h : Has w 3 1 (.slice (some ⟨g, 0, none⟩) js.length js.length) js.length (nv (ord js))) (hn : js.length ≤ 12) : Row (fun x => [iv x]) 1 w (some ⟨g, 0, none⟩) js.length (ods js) := by
  refine ⟨ods_len js, by unfold maxLen; omega, fun h0 => ?_⟩
  obtain ⟨g', off, hA, hc⟩ := h.at_ h0
  cases hA
  rw [nv_ods] at hc
  have hx : (ods js)[0]? = some ((ods js)[0]'(by rw [ods_len]; exact h0)) := List.getElem?_eq_getElem _
  refine ⟨g, 0, rfl, World.block_lt_of_cell? _ _ (hc 0 (iv ((ods js)[0]'(by rw [ods_len]; exact h0))) (by rw [List.getElem?_map, hx]; rfl)), fun i x hi j v hj => ?_⟩
  cases j with
  | zero =>
    have e : v = iv x := by simpa using hj.symm
    subst e
    have := hc i (iv x) (by rw [List.getElem?_map, hi]; rfl)
    simpa using this
  | succ j => simp at hj
def start (js : List J) : St := ⟨List.replicate js.length 0, List.replicate js.length (0, 0), [], []⟩
theorem start_ok (hn : js.length ≤ 12) : Ok js 0 12 (start js) := by
  refine ⟨fun i => ?_, rfl, ?_⟩
  · unfold ranAt start
    simp only
    rw [List.getD_eq_getElem?_getD, List.getElem?_replicate]
    split <;> simp
  · unfold wt start
    have : (List.replicate js.length ((0 : Int), (0 : Int))).countP (fun f => f.1 == 0) ≤ _ := List.countP_le_length
    rw [List.length_replicate] at this
    simp only [List.length_nil]
    omega
/-- A runner whose rows lie elsewhere. -/
def Adr.put (d : Adr) (tv av : Value) : Adr := { d with tv := tv, av := av }
/-- What lies ahead of the runner's box. -/
structure Born (w1 : World) (js : List J) (Aj : Option Addr) (go gr : Nat) (w : World) : Prop where
  R : Row jc 8 w Aj js.length js
  C : ∀ a, Aj = some a → w1.heap.size ≤ a.block ∧ a.block < w.heap.size
  O : Has w 3 1 (.slice (some ⟨go, 0, none⟩) js.length js.length) js.length (nv (ord js))
  G : Blk w gr 3 ((List.replicate js.length (0 : Int)).map iv)
  ho : w1.heap.size ≤ go ∧ go < w.heap.size
  hr : w1.heap.size ≤ gr
  ao : ∀ a, Aj = some a → a.block ≠ go
  ar : ∀ a, Aj = some a → a.block ≠ gr
  or_ : go ≠ gr
  B : Below w1.heap.size w1 w
/-- The runner, as it begins. -/
theorem Born.at_ {w1 wp : World} {Aj : Option Addr} {go gr cj : Nat} (BN : Born w1 js Aj go gr wp) (hn : js.length ≤ 12) {W5 : World}
    (hW : W5 = (wp.alloc (.cells #[.int .i64 2, .int .i64 1, .slice Aj js.length cj, .slice (some ⟨go, 0, none⟩) js.length js.length, .slice (some ⟨gr, 0, none⟩) js.length js.length, .slice none 0 0, .slice (some ⟨wp.heap.size + 1, 0, none⟩) js.length js.length, .slice none 0 0, .int .i64 0] 219)).alloc (.cells ((List.replicate js.length ((0 : Int), (0 : Int))).flatMap fc).toArray 53)) :
    At w1.heap.size W5 ⟨wp.heap.size, gr, wp.heap.size + 1, Aj, cj, some ⟨go, 0, none⟩, js.length, js.length, js.length, .slice none 0 0, .slice none 0 0⟩ js (ods js) (start js) 0 ∧ Below w1.heap.size w1 W5 := by
  have XP := (Blk.new wp 219 [.int .i64 2, .int .i64 1, .slice Aj js.length cj, .slice (some ⟨go, 0, none⟩) js.length js.length, .slice (some ⟨gr, 0, none⟩) js.length js.length, .slice none 0 0, .slice (some ⟨wp.heap.size + 1, 0, none⟩) js.length js.length, .slice none 0 0, .int .i64 0]).alloc (.cells ((List.replicate js.length ((0 : Int), (0 : Int))).flatMap fc).toArray 53)
  have K : Keeps (fun _ => False) wp W5 := by
    rw [hW]; exact ((Keeps.refl _ wp).alloc _).alloc _
  have hb : Below wp.heap.size wp W5 := K.below (fun _ _ h => h)
  have hs5 : W5.heap.size = wp.heap.size + 2 := by rw [hW]; simp
  have FB : Blk W5 (wp.heap.size + 1) 53 ((List.replicate js.length ((0 : Int), (0 : Int))).flatMap fc) := by
    rw [hW]
    have h1 := Blk.new (wp.alloc (.cells #[.int .i64 2, .int .i64 1, .slice Aj js.length cj, .slice (some ⟨go, 0, none⟩) js.length js.length, .slice (some ⟨gr, 0, none⟩) js.length js.length, .slice none 0 0, .slice (some ⟨wp.heap.size + 1, 0, none⟩) js.length js.length, .slice none 0 0, .int .i64 0] 219)) 53 ((List.replicate js.length ((0 : Int), (0 : Int))).flatMap fc)
    rw [show (wp.alloc (.cells #[.int .i64 2, .int .i64 1, .slice Aj js.length cj, .slice (some ⟨go, 0, none⟩) js.length js.length, .slice (some ⟨gr, 0, none⟩) js.length js.length, .slice none 0 0, .slice (some ⟨wp.heap.size + 1, 0, none⟩) js.length js.length, .slice none 0 0, .int .i64 0] 219)).heap.size = wp.heap.size + 1 by simp] at h1
    exact h1
  obtain ⟨hgo1, hgo2⟩ := BN.ho
  have hgr := BN.G.lt
  have hr := BN.hr
  have hor := BN.or_
  have hsz := BN.B.size
  refine ⟨?_, BN.B.trans (hb.mono hsz)⟩
  have hnil : W5.ownsRow w1.heap.size 3 1 (.slice none 0 0) 0 [] := ⟨rfl, .inl ⟨rfl, rfl⟩⟩
  constructor
  · rw [hW]; exact XP
  · exact Row.below BN.R hb
  · exact row_ods (Rob.Has.down BN.O hb) hn
  · exact blk_below BN.G hb
  · exact FB
  · simp [start]
  · simp [start]
  · exact hnil
  · exact hnil
  · intro x hx
    unfold ods at hx
    obtain ⟨y, hy, rfl⟩ := List.mem_map.1 hx
    have := ord_mem js y hy
    omega
  · cases Aj with
    | none => simp [Adr.blocks, ob, Value.ownBlock]; omega
    | some ad =>
      have h1 := BN.C ad rfl
      have h2 := BN.ao ad rfl
      have h3 := BN.ar ad rfl
      simp [Adr.blocks, ob, Value.ownBlock]; omega
  · intro b hb'
    cases Aj with
    | none => simp [Adr.blocks, ob, Value.ownBlock] at hb'; omega
    | some ad => have h3 := BN.C ad rfl; simp [Adr.blocks, ob, Value.ownBlock] at hb'; omega
  · intro b hb'
    cases Aj with
    | none => simp [Adr.blocks, ob, Value.ownBlock] at hb'; omega
    | some ad => have h3 := BN.C ad rfl; simp [Adr.blocks, ob, Value.ownBlock] at hb'; omega
  · exact hn
set_option maxRecDepth 100000 in
set_option maxHeartbeats 8000000 in
theorem run_all {A : Option Addr} {c : Nat} (T : Tabs w) (R : Row jc 8 w A js.length js) (hA : ∀ a, A = some a → ∃ b off, a = ⟨b, off, none⟩) (hAl : ∀ a, A = some a → a.block < w.heap.size) (hg : Goods js) (hall : Job.all js = true) (hn : js.length ≤ 12) :
    Calls Tryz.prog 73 #[.agg #[.int .i64 2, .int .i64 1], .slice A js.length c] w fun e w' => ∃ (tv : Value) (gf : Nat) (A2 : Option Addr) (n2 c2 : Nat) (tr : List Int) (fs : List (Int × Int)), e = .returned (.tuple #[.agg #[tv, .slice (some ⟨gf, 0, none⟩) js.length js.length, .slice A2 n2 c2], .int .i64 0]) ∧
      w'.ownsRow w.heap.size 3 1 tv tr.length (tr.map iv) ∧ Blk w' gf 53 (fs.flatMap fc) ∧ w.heap.size ≤ gf ∧ fs.length = js.length ∧ tr.length ≤ 10000 ∧ Below w.heap.size w w' := by
  have hns : ∀ x ∈ js, x.nm.size < 4611686018427387904 := fun x hx => (hg x hx).2
  have hmI := fun W => makes_ints js.length (by omega) W
  have hmF := fun W => makes_fates js.length (by omega) W
  have bO := ((Below.refl w.heap.size w).alloc (Nat.le_refl _) (.cells #[.int .i64 2, .int .i64 1] 73)).alloc (by simp) (.cells #[.slice none 0 0, .slice none 0 0, .slice none 0 0] 150)
  have XR := (Blk.new w 73 [.int .i64 2, .int .i64 1]).alloc (.cells #[.slice none 0 0, .slice none 0 0, .slice none 0 0] 150)
  have XO := Blk.new (w.alloc (.cells #[.int .i64 2, .int .i64 1] 73)) 150 [.slice none 0 0, .slice none 0 0, .slice none 0 0]
  rw [show (w.alloc (.cells #[.int .i64 2, .int .i64 1] 73)).heap.size = w.heap.size + 1 by simp] at XO
  have R1 := Row.below R bO
  have T1 := T.below bO
  obtain ⟨Z, hZ⟩ : ∃ Z, Z = (List.replicate js.length (0 : Int)).map iv := ⟨_, rfl⟩
  obtain ⟨Za, hZa⟩ : ∃ Za, Za = Z.toArray := ⟨_, rfl⟩
  rw [← hZ, ← hZa] at hmI
  obtain ⟨Ya, hYa⟩ : ∃ Ya, Ya = ((List.replicate js.length ((0 : Int), (0 : Int))).flatMap fc).toArray := ⟨_, rfl⟩
  rw [← hYa] at hmF
  have HZ := Lib.hid hZ
  have HZa := Lib.hid hZa
  have HYa := Lib.hid hYa
  have HBO := Lib.hid bO
  have HXO := Lib.hid XO
  have HXR := Lib.hid XR
  have HR1 := Lib.hid R1
  have HT1 := Lib.hid T1
  have HNS := Lib.hid hns
  have HALL := Lib.hid hall
  have HG := Lib.hid hg
  have HA := Lib.hid hA
  have HAL := Lib.hid hAl
  clear hns bO XO XR R1 T1 hZ hZa hYa hall hg hA hAl T R
  go_enter Tryz.func73, Tryz.ntmps73
  go_upto_region 1 with fail
  simp only [List.toArray] at HXO HXR
  generalize (w.alloc (.cells #[.int .i64 2, .int .i64 1] 73)).alloc (.cells #[.slice none 0 0, .slice none 0 0, .slice none 0 0] 150) = w1 at *
  have HOL := Lib.hid (show w.heap.size + 1 < w1.heap.size from HXO.out.lt)
  have r0 : w1.cell? ⟨w.heap.size, 0, none⟩ = some (.int .i64 2) := HXR.out.cellAt (i := 0) rfl
  have r1 : w1.cell? ⟨w.heap.size, 1, none⟩ = some (.int .i64 1) := HXR.out.cellAt (i := 1) rfl
  have HS := Lib.hid (fun W (hb : Below w1.heap.size w1 W) => (show W.cell? ⟨w.heap.size, 0, none⟩ = some (.int .i64 2) ∧ W.cell? ⟨w.heap.size, 1, none⟩ = some (.int .i64 1) from ⟨(hb.cell (World.block_lt_of_cell? _ _ r0)).trans r0, (hb.cell (World.block_lt_of_cell? _ _ r1)).trans r1⟩))
  have CY := rule_y w1
  have CA := Lib.hid (fun W (hb : Below w1.heap.size w1 W) => (show Calls Tryz.prog 22 #[.slice A js.length c] W fun e w' => e = .returned (.bool true) ∧ Below W.heap.size W w' from by
    have := Job.all_is (c := c) (HT1.out.below hb) (Row.below HR1.out hb) HNS.out
    rw [HALL.out] at this
    exact this))
  go_upto_region 3 with (first | (go_at_call 59; refine CY.mono ?_; rintro e w2 ⟨rfl, hb2⟩) | (go_at_call 22; refine (CA.out w2 hb2).mono ?_; rintro e w3 ⟨rfl, hb3⟩))
  have B3 : Below w1.heap.size w1 w3 := hb2.trans (hb3.mono hb2.size)
  have HB3 := Lib.hid B3
  have HCL := Lib.hid (fun W (hb : Below w1.heap.size w1 W) => clone_jobs (c := c) (Row.below HR1.out hb) HA.out (by omega))
  have HBY := Lib.hid (fun W (hb : Below w1.heap.size w1 W) => by_is (c := c) (Row.below HR1.out hb) (fun a ha => Nat.lt_of_lt_of_le (HAL.out a ha) (Nat.le_trans HBO.out.size hb.size)) hn)
  clear CY CA hb2 hb3 r0 r1 B3
  go_cut [6] (fun v wx => ∃ (wp : World) (Aj : Option Addr) (cj go gr : Nat), v = .pointer (some ⟨wp.heap.size, 0, none⟩) ∧ wx = wp.alloc (.cells #[.int .i64 2, .int .i64 1, .slice Aj js.length cj, .slice (some ⟨go, 0, none⟩) js.length js.length, .slice (some ⟨gr, 0, none⟩) js.length js.length, .slice none 0 0, .slice none 0 0, .slice none 0 0, .int .i64 0] 219) ∧ Born w1 js Aj go gr wp)
  case first =>
    have B4 : Below w1.heap.size w1 w3.drew := HB3.out.trans ((below_drew w3).mono HB3.out.size)
    refine wp_region_held_drew (S := fun W => W.cell? ⟨w.heap.size, 0, none⟩ = some (.int .i64 2) ∧ W.cell? ⟨w.heap.size, 1, none⟩ = some (.int .i64 1)) (by kernel_rfl) (HS.out _ B4) (fun hHeld => ?_)
    generalize w3.drew = w4 at *
    refine wpAnyH_take (i := 0) (oi := ⟨some 18, _, _, _, _, _⟩) (v := ?_) rfl (by kernel_rfl) (by kernel_rfl) (by kernel_rfl) (fun _ _ _ h => h) (Or.inl ⟨by kernel_rfl, ?_⟩) (by assumption) ?_
    rotate_left
    · intro w hSw; (try dsimp only at hSw); obtain ⟨qs0, qs1⟩ := hSw; go_simp; try with_reducible rfl
    rotate_left
    try simp only [Act.put, List.setIfInBounds_toArray, List.set_cons_zero, List.set_cons_succ]
    refine wpAnyH_take (i := 1) (oi := ⟨some 19, _, _, _, _, _⟩) (v := ?_) rfl (by kernel_rfl) (by kernel_rfl) (by kernel_rfl) (fun _ _ _ h => h) (Or.inl ⟨by kernel_rfl, ?_⟩) (by assumption) ?_
    rotate_left
    · intro w hSw; (try dsimp only at hSw); obtain ⟨qs0, qs1⟩ := hSw; go_simp; try with_reducible rfl
    rotate_left
    try simp only [Act.put, List.setIfInBounds_toArray, List.set_cons_zero, List.set_cons_succ]
    refine wpAnyH_take (i := 3) (oi := ⟨some 21, _, _, _, _, _⟩) (v := ?_) rfl (by kernel_rfl) (by kernel_rfl) (by kernel_rfl) (fun _ _ _ h => h) (Or.inl ⟨by kernel_rfl, ?_⟩) (by assumption) ?_
    rotate_left
    · intro w hSw; (try dsimp only at hSw); obtain ⟨qs0, qs1⟩ := hSw; go_simp; try with_reducible rfl
    rotate_left
    try simp only [Act.put, List.setIfInBounds_toArray, List.set_cons_zero, List.set_cons_succ]
    refine wpAnyH_take (i := 5) (oi := ⟨some 23, _, _, _, _, _⟩) (v := ?_) rfl (by kernel_rfl) (by kernel_rfl) (by kernel_rfl) (fun _ _ _ h => h) (Or.inl ⟨by kernel_rfl, ?_⟩) (by assumption) ?_
    rotate_left
    · intro w hSw; (try dsimp only at hSw); obtain ⟨qs0, qs1⟩ := hSw; go_simp; try with_reducible rfl
    rotate_left
    try simp only [Act.put, List.setIfInBounds_toArray, List.set_cons_zero, List.set_cons_succ]
    refine wpAnyH_take (i := 6) (oi := ⟨some 24, _, _, _, _, _⟩) (v := ?_) rfl (by kernel_rfl) (by kernel_rfl) (by kernel_rfl) (fun _ _ _ h => h) (Or.inl ⟨by kernel_rfl, ?_⟩) (by assumption) ?_
    rotate_left
    · intro w hSw; (try dsimp only at hSw); obtain ⟨qs0, qs1⟩ := hSw; go_simp; try with_reducible rfl
    rotate_left
    try simp only [Act.put, List.setIfInBounds_toArray, List.set_cons_zero, List.set_cons_succ]
    refine wpAnyH_ready (rs := [2, 7]) (by kernel_rfl) (by simp) ?_
    refine AllReadyH.cons (o := ⟨some 20, _, _, _, _, _⟩) rfl (fun K hK => ?_) (AllReadyH.cons (o := ⟨some 25, _, _, _, _, _⟩) rfl (fun K hK => ?_) AllReadyH.nil)
    · skip
      go_simp
      refine (HCL.out w4 B4).mono ?_
      rintro e w5 ⟨Aj, cj, rfl, R5, cc, ba⟩
      have C5 := fun a ha => (show w1.heap.size ≤ Addr.block a ∧ Addr.block a < w5.heap.size from ⟨Nat.le_trans B4.size (cc a ha).1, (cc a ha).2⟩)
      have B5 := B4.trans (ba.mono B4.size)
      clear cc ba
      go_wp2_with fail
      refine hK.out _ _ (HS.out _ B5) (fun hHeld => ?_)
      clear hK K
      try simp only [Act.put, List.setIfInBounds_toArray, List.set_cons_zero, List.set_cons_succ]
      refine wpAnyH_ready (rs := [4, 7]) (by kernel_rfl) (by simp) ?_
      refine AllReadyH.cons (o := ⟨some 22, _, _, _, _, _⟩) rfl (fun K hK => ?_) (AllReadyH.cons (o := ⟨some 25, _, _, _, _, _⟩) rfl (fun K hK => ?_) AllReadyH.nil)
      · skip
        go_simp
        refine (HBY.out w5 B5).mono ?_
        rintro e w6 ⟨go, rfl, O6, hgo1, L6, ba⟩
        have hgo : w1.heap.size ≤ go := Nat.le_trans B5.size hgo1
        have B6 := B5.trans (ba.mono B5.size)
        have R6 := Row.below R5 ba
        have C6 := fun a ha => (show w1.heap.size ≤ Addr.block a ∧ Addr.block a < _ from ⟨(C5 a ha).1, Nat.lt_of_lt_of_le (C5 a ha).2 ba.size⟩)
        have dao := fun a ha (e : Addr.block a = go) => (show False by have := (C5 a ha).2; omega)
        clear hgo1 ba
        go_wp2_with fail
        refine hK.out _ _ (HS.out _ B6) (fun hHeld => ?_)
        clear hK K
        try simp only [Act.put, List.setIfInBounds_toArray, List.set_cons_zero, List.set_cons_succ]
        refine wpAnyH_ready (rs := [7]) (by kernel_rfl) (by simp) ?_
        refine AllReadyH.cons (o := ⟨some 25, _, _, _, _, _⟩) rfl (fun K hK => ?_) AllReadyH.nil
        · skip
          go_simp
          have ba := (Below.refl w6.heap.size w6).alloc (Nat.le_refl _) (.cells Za 3)
          have G7 : Blk (w6.alloc (.cells Za 3)) w6.heap.size 3 ((List.replicate js.length (0 : Int)).map iv) := by rw [HZa.out, HZ.out]; exact Blk.new w6 3 _
          have hgr : w1.heap.size ≤ w6.heap.size := B6.size
          have B7 := B6.trans (ba.mono B6.size)
          have R7 := Row.below R6 ba
          have C7 := fun a ha => (show w1.heap.size ≤ Addr.block a ∧ Addr.block a < _ from ⟨(C6 a ha).1, Nat.lt_of_lt_of_le (C6 a ha).2 ba.size⟩)
          have O7 := Rob.Has.down O6 ba
          have L7 := Nat.lt_of_lt_of_le L6 ba.size
          have dar := fun a ha (e : Addr.block a = w6.heap.size) => (show False by have := (C6 a ha).2; omega)
          have dor : go ≠ w6.heap.size := Nat.ne_of_lt L6
          clear ba
          clear B6 R6 C6 O6 L6
          generalize w6.alloc (.cells Za 3) = w7 at *
          generalize w6.heap.size = gr at *
          refine hK.out _ _ (HS.out _ B7) (fun hHeld => ?_)
          clear hK K
          try simp only [Act.put, List.setIfInBounds_toArray, List.set_cons_zero, List.set_cons_succ]
          refine wpAnyH_take (i := 8) (oi := ⟨some 26, _, _, _, _, _⟩) (v := ?_) rfl (by kernel_rfl) (by kernel_rfl) (by kernel_rfl) (fun _ _ _ h => h) (Or.inl ⟨by kernel_rfl, ?_⟩) (by assumption) ?_
          rotate_left
          · intro w hSw; (try dsimp only at hSw); obtain ⟨qs0, qs1⟩ := hSw; go_simp; try with_reducible rfl
          rotate_left
          try simp only [Act.put, List.setIfInBounds_toArray, List.set_cons_zero, List.set_cons_succ]
          refine wpAnyH_ready (rs := [9]) (by kernel_rfl) (by simp) ?_
          refine AllReadyH.cons (o := ⟨some 27, _, _, _, _, _⟩) rfl (fun K hK => ?_) AllReadyH.nil
          go_simp
          refine hK.out _ _ (HS.out _ (B7.alloc B7.size _)) (fun hHeld => ?_)
          clear hK K
          try simp only [Act.put, List.setIfInBounds_toArray, List.set_cons_zero, List.set_cons_succ]
          refine wpAnyH_take (i := 10) (oi := ⟨some 6, _, _, _, _, _⟩) (v := ?_) rfl (by kernel_rfl) (by kernel_rfl) (by kernel_rfl) (fun _ _ _ h => h) (Or.inl ⟨by kernel_rfl, ?_⟩) (by assumption) ?_
          rotate_left
          · intro w hSw; (try dsimp only at hSw); obtain ⟨qs0, qs1⟩ := hSw; go_simp; try with_reducible rfl
          rotate_left
          try simp only [Act.put, List.setIfInBounds_toArray, List.set_cons_zero, List.set_cons_succ]
          refine wpAnyH_done (by kernel_rfl) ?_ _
          go_wp2_with fail
          go_meet
          case rel =>
            exact ⟨w7, Aj, cj, go, gr, rfl, rfl, ⟨R7, C7, O7, G7, ⟨hgo, L7⟩, hgr, dao, dar, dor, B7⟩⟩
      · skip
        go_simp
        have ba := (Below.refl w5.heap.size w5).alloc (Nat.le_refl _) (.cells Za 3)
        have G6 : Blk (w5.alloc (.cells Za 3)) w5.heap.size 3 ((List.replicate js.length (0 : Int)).map iv) := by rw [HZa.out, HZ.out]; exact Blk.new w5 3 _
        have hgr : w1.heap.size ≤ w5.heap.size := B5.size
        have B6 := B5.trans (ba.mono B5.size)
        have R6 := Row.below R5 ba
        have C6 := fun a ha => (show w1.heap.size ≤ Addr.block a ∧ Addr.block a < _ from ⟨(C5 a ha).1, Nat.lt_of_lt_of_le (C5 a ha).2 ba.size⟩)
        have dar := fun a ha (e : Addr.block a = w5.heap.size) => (show False by have := (C5 a ha).2; omega)
        clear ba
        clear B5 R5 C5
        generalize w5.alloc (.cells Za 3) = w6 at *
        generalize w5.heap.size = gr at *
        refine hK.out _ _ (HS.out _ B6) (fun hHeld => ?_)
        clear hK K
        try simp only [Act.put, List.setIfInBounds_toArray, List.set_cons_zero, List.set_cons_succ]
        refine wpAnyH_ready (rs := [4]) (by kernel_rfl) (by simp) ?_
        refine AllReadyH.cons (o := ⟨some 22, _, _, _, _, _⟩) rfl (fun K hK => ?_) AllReadyH.nil
        · skip
          go_simp
          refine (HBY.out w6 B6).mono ?_
          rintro e w7 ⟨go, rfl, O7, hgo1, L7, ba⟩
          have hgo : w1.heap.size ≤ go := Nat.le_trans B6.size hgo1
          have B7 := B6.trans (ba.mono B6.size)
          have R7 := Row.below R6 ba
          have C7 := fun a ha => (show w1.heap.size ≤ Addr.block a ∧ Addr.block a < _ from ⟨(C6 a ha).1, Nat.lt_of_lt_of_le (C6 a ha).2 ba.size⟩)
          have G7 := blk_below G6 ba
          have dao := fun a ha (e : Addr.block a = go) => (show False by have := (C6 a ha).2; omega)
          have dor : go ≠ gr := fun e => by have := G6.lt; omega
          clear hgo1 ba
          go_wp2_with fail
          refine hK.out _ _ (HS.out _ B7) (fun hHeld => ?_)
          clear hK K
          try simp only [Act.put, List.setIfInBounds_toArray, List.set_cons_zero, List.set_cons_succ]
          refine wpAnyH_take (i := 8) (oi := ⟨some 26, _, _, _, _, _⟩) (v := ?_) rfl (by kernel_rfl) (by kernel_rfl) (by kernel_rfl) (fun _ _ _ h => h) (Or.inl ⟨by kernel_rfl, ?_⟩) (by assumption) ?_
          rotate_left
          · intro w hSw; (try dsimp only at hSw); obtain ⟨qs0, qs1⟩ := hSw; go_simp; try with_reducible rfl
          rotate_left
          try simp only [Act.put, List.setIfInBounds_toArray, List.set_cons_zero, List.set_cons_succ]
          refine wpAnyH_ready (rs := [9]) (by kernel_rfl) (by simp) ?_
          refine AllReadyH.cons (o := ⟨some 27, _, _, _, _, _⟩) rfl (fun K hK => ?_) AllReadyH.nil
          go_simp
          refine hK.out _ _ (HS.out _ (B7.alloc B7.size _)) (fun hHeld => ?_)
          clear hK K
          try simp only [Act.put, List.setIfInBounds_toArray, List.set_cons_zero, List.set_cons_succ]
          refine wpAnyH_take (i := 10) (oi := ⟨some 6, _, _, _, _, _⟩) (v := ?_) rfl (by kernel_rfl) (by kernel_rfl) (by kernel_rfl) (fun _ _ _ h => h) (Or.inl ⟨by kernel_rfl, ?_⟩) (by assumption) ?_
          rotate_left
          · intro w hSw; (try dsimp only at hSw); obtain ⟨qs0, qs1⟩ := hSw; go_simp; try with_reducible rfl
          rotate_left
          try simp only [Act.put, List.setIfInBounds_toArray, List.set_cons_zero, List.set_cons_succ]
          refine wpAnyH_done (by kernel_rfl) ?_ _
          go_wp2_with fail
          go_meet
          case rel =>
            exact ⟨w7, Aj, cj, go, gr, rfl, rfl, ⟨R7, C7, O7, G7, ⟨hgo, L7⟩, hgr, dao, dar, dor, B7⟩⟩
    · skip
      go_simp
      have ba := (Below.refl w4.heap.size w4).alloc (Nat.le_refl _) (.cells Za 3)
      have G5 : Blk (w4.alloc (.cells Za 3)) w4.heap.size 3 ((List.replicate js.length (0 : Int)).map iv) := by rw [HZa.out, HZ.out]; exact Blk.new w4 3 _
      have hgr : w1.heap.size ≤ w4.heap.size := B4.size
      have B5 := B4.trans (ba.mono B4.size)
      clear ba
      clear B4
      generalize w4.alloc (.cells Za 3) = w5 at *
      generalize w4.heap.size = gr at *
      refine hK.out _ _ (HS.out _ B5) (fun hHeld => ?_)
      clear hK K
      try simp only [Act.put, List.setIfInBounds_toArray, List.set_cons_zero, List.set_cons_succ]
      refine wpAnyH_ready (rs := [2]) (by kernel_rfl) (by simp) ?_
      refine AllReadyH.cons (o := ⟨some 20, _, _, _, _, _⟩) rfl (fun K hK => ?_) AllReadyH.nil
      · skip
        go_simp
        refine (HCL.out w5 B5).mono ?_
        rintro e w6 ⟨Aj, cj, rfl, R6, cc, ba⟩
        have C6 := fun a ha => (show w1.heap.size ≤ Addr.block a ∧ Addr.block a < w6.heap.size from ⟨Nat.le_trans B5.size (cc a ha).1, (cc a ha).2⟩)
        have B6 := B5.trans (ba.mono B5.size)
        have G6 := blk_below G5 ba
        have dar := fun a ha (e : Addr.block a = gr) => (show False by have := (cc a ha).1; have := G5.lt; omega)
        clear cc ba
        go_wp2_with fail
        refine hK.out _ _ (HS.out _ B6) (fun hHeld => ?_)
        clear hK K
        try simp only [Act.put, List.setIfInBounds_toArray, List.set_cons_zero, List.set_cons_succ]
        refine wpAnyH_ready (rs := [4]) (by kernel_rfl) (by simp) ?_
        refine AllReadyH.cons (o := ⟨some 22, _, _, _, _, _⟩) rfl (fun K hK => ?_) AllReadyH.nil
        · skip
          go_simp
          refine (HBY.out w6 B6).mono ?_
          rintro e w7 ⟨go, rfl, O7, hgo1, L7, ba⟩
          have hgo : w1.heap.size ≤ go := Nat.le_trans B6.size hgo1
          have B7 := B6.trans (ba.mono B6.size)
          have R7 := Row.below R6 ba
          have C7 := fun a ha => (show w1.heap.size ≤ Addr.block a ∧ Addr.block a < _ from ⟨(C6 a ha).1, Nat.lt_of_lt_of_le (C6 a ha).2 ba.size⟩)
          have G7 := blk_below G6 ba
          have dao := fun a ha (e : Addr.block a = go) => (show False by have := (C6 a ha).2; omega)
          have dor : go ≠ gr := fun e => by have := G6.lt; omega
          clear hgo1 ba
          go_wp2_with fail
          refine hK.out _ _ (HS.out _ B7) (fun hHeld => ?_)
          clear hK K
          try simp only [Act.put, List.setIfInBounds_toArray, List.set_cons_zero, List.set_cons_succ]
          refine wpAnyH_take (i := 8) (oi := ⟨some 26, _, _, _, _, _⟩) (v := ?_) rfl (by kernel_rfl) (by kernel_rfl) (by kernel_rfl) (fun _ _ _ h => h) (Or.inl ⟨by kernel_rfl, ?_⟩) (by assumption) ?_
          rotate_left
          · intro w hSw; (try dsimp only at hSw); obtain ⟨qs0, qs1⟩ := hSw; go_simp; try with_reducible rfl
          rotate_left
          try simp only [Act.put, List.setIfInBounds_toArray, List.set_cons_zero, List.set_cons_succ]
          refine wpAnyH_ready (rs := [9]) (by kernel_rfl) (by simp) ?_
          refine AllReadyH.cons (o := ⟨some 27, _, _, _, _, _⟩) rfl (fun K hK => ?_) AllReadyH.nil
          go_simp
          refine hK.out _ _ (HS.out _ (B7.alloc B7.size _)) (fun hHeld => ?_)
          clear hK K
          try simp only [Act.put, List.setIfInBounds_toArray, List.set_cons_zero, List.set_cons_succ]
          refine wpAnyH_take (i := 10) (oi := ⟨some 6, _, _, _, _, _⟩) (v := ?_) rfl (by kernel_rfl) (by kernel_rfl) (by kernel_rfl) (fun _ _ _ h => h) (Or.inl ⟨by kernel_rfl, ?_⟩) (by assumption) ?_
          rotate_left
          · intro w hSw; (try dsimp only at hSw); obtain ⟨qs0, qs1⟩ := hSw; go_simp; try with_reducible rfl
          rotate_left
          try simp only [Act.put, List.setIfInBounds_toArray, List.set_cons_zero, List.set_cons_succ]
          refine wpAnyH_done (by kernel_rfl) ?_ _
          go_wp2_with fail
          go_meet
          case rel =>
            exact ⟨w7, Aj, cj, go, gr, rfl, rfl, ⟨R7, C7, O7, G7, ⟨hgo, L7⟩, hgr, dao, dar, dor, B7⟩⟩
  case rest =>
    obtain ⟨wp, Aj, cj, go, gr, rfl, rfl, BN⟩ := hcut
    have XP := Blk.new wp 219 [.int .i64 2, .int .i64 1, .slice Aj js.length cj, .slice (some ⟨go, 0, none⟩) js.length js.length, .slice (some ⟨gr, 0, none⟩) js.length js.length, .slice none 0 0, .slice none 0 0, .slice none 0 0, .int .i64 0]
    have fp := ((XP.alloc (.cells Ya 53)).frozen)
    have hp6 := ((XP.alloc (.cells Ya 53)).cellAt (i := 6) rfl)
    obtain ⟨W5, hW5⟩ : ∃ W, W = (wp.alloc (.cells #[.int .i64 2, .int .i64 1, .slice Aj js.length cj, .slice (some ⟨go, 0, none⟩) js.length js.length, .slice (some ⟨gr, 0, none⟩) js.length js.length, .slice none 0 0, .slice (some ⟨wp.heap.size + 1, 0, none⟩) js.length js.length, .slice none 0 0, .int .i64 0] 219)).alloc (.cells Ya 53) := ⟨_, rfl⟩
    obtain ⟨h5, B5⟩ := BN.at_ hn (cj := cj) (W5 := W5) (by rw [hW5, HYa.out])
    have H5 := Lib.hid h5
    have HB5 := Lib.hid B5
    have HW5 := Lib.hid hW5
    clear XP BN h5 B5 hW5
    go_upto_region 5 with fail
    rw [← HW5.out]
    clear fp hp6 hmI hmF
    have CE := Job.end_is (c := c) (HT1.out.below HB5.out) (Row.below HR1.out HB5.out) HNS.out
    obtain ⟨e0, e1⟩ := eend_bd HG.out
    obtain ⟨E, hE⟩ := Int.eq_ofNat_of_zero_le e0
    rw [hE] at CE e1
    clear hE e0
    generalize wp.heap.size = p at *
    obtain ⟨d, hd, hdp, hdf, hdc, hdg⟩ : ∃ d : Adr, d = ⟨p, gr, p + 1, Aj, cj, some ⟨go, 0, none⟩, js.length, js.length, js.length, .slice none 0 0, .slice none 0 0⟩ ∧ d.p = p ∧ d.gf = p + 1 ∧ d.cf = js.length ∧ d = d.put (.slice none 0 0) (.slice none 0 0) := ⟨_, rfl, rfl, rfl, rfl, rfl⟩
    rw [← hd] at H5
    subst hdp
    have HDF := Lib.hid hdf
    have HDC := Lib.hid hdc
    clear hd hdf hdc hdg HW5
    go_upto_region 6 with (go_at_call 29; refine CE.mono ?_; rintro e w6 ⟨rfl, hb6⟩)
    have h6 := H5.out.down hb6
    have B6 := HB5.out.trans (hb6.mono HB5.out.size)
    have fp := h6.B.frozen
    have c8 := h6.B.cellAt (i := 8) rfl
    obtain ⟨h7, k7⟩ := h6.tick 0
    have B7 := below_keeps B6 k7 B6.size (fun b hb => by rw [hb]; exact h6.ge _ (by simp [Adr.blocks]))
    have H7 := Lib.hid h7
    have HB7 := Lib.hid B7
    have hE2 : E ≤ 10000 := by omega
    clear CE hb6 h6 B6 h7 k7 B7 H5 HB5 HB3 HCL HBY HS HZ HZa HYa HXR e1
    go_wp2_with fail
    go_loopg [] E (fun g wr => ∃ (t : Nat) (tv av : Value) (z : St), t + g = E ∧ At w1.heap.size wr (d.put tv av) js (ods js) z (t : Int) ∧ Ok js t 12 z ∧ Below w1.heap.size w1 wr)
    case atStart => exact ⟨0, d.tv, d.av, start js, by omega, H7.out, start_ok hn, HB7.out⟩
    case round =>
      clear fp c8 H7 HB7
      obtain ⟨t, tv, av, z, ht, h, hok, B⟩ := hrel
      have b8 : wr.cell? ⟨d.p, 8, none⟩ = some (.int .i64 (t : Int)) := h.B.cellAt (i := 8) rfl
      have H := Lib.hid h
      have HB := Lib.hid B
      have HOK := Lib.hid hok
      clear h B hok
      generalize gk = G at *
      by_cases hlt : t < E
      · have hlti : (t : Int) < (E : Int) := by omega
        have CX := expire_is HB.out H.out HOK.out (by omega)
        go_upto_region 10 with (go_at_call 114; refine CX.mono ?_; rintro e w8 ⟨rfl, z8, h8, ok8, B8⟩)
        have H8 := Lib.hid h8
        have HB8 := Lib.hid B8
        have HOK8 := Lib.hid ok8
        clear CX h8 B8 ok8 b8 H HB HOK
        go_loopg [] 12 (fun g wr => ∃ (z : St) (av : Value), wt z ≤ g ∧ At w1.heap.size wr (d.put tv av) js (ods js) z (t : Int) ∧ Ok js t 12 z ∧ Below w1.heap.size w1 wr)
        case atStart => exact ⟨z8, av, by have := HOK8.out.al; omega, H8.out, HOK8.out, HB8.out⟩
        case round =>
          clear H8 HB8 HOK8
          obtain ⟨y, av, hy, h, hok, B⟩ := hrel
          have CG := ring_is HT1.out B h hok HG.out (by omega) (by omega)
          clear h B hok
          go_wp2_with fail
          refine CG.mono ?_
          rintro e w9 ⟨r, rfl, y9, av9, h9, ok9, hw9, B9⟩
          have H9 := Lib.hid h9
          have HB9 := Lib.hid B9
          have HOK9 := Lib.hid ok9
          have HW9 := Lib.hid hw9
          clear h9 B9 ok9 hw9 CG
          cases r with
          | true =>
            go_wp2_with fail
            go_roundg (gk - 1)
            case measure => have := HW9.out (by simp); omega
            case rel => exact ⟨y9, av9, by have := HW9.out (by simp); omega, H9.out, HOK9.out, HB9.out⟩
          | false =>
            have CR := run_is HT1.out HB9.out H9.out HOK9.out HG.out (by omega) (by omega)
            clear H9 HB9 HOK9 HW9
            go_wp2_with fail
            refine CR.mono ?_
            rintro e wa ⟨rfl, ya, tva, ha, oka, Ba⟩
            have fp : ∀ i, wa.frozen? ⟨d.p, i, none⟩ = false := ha.B.frozen
            have c8 : wa.cell? ⟨d.p, 8, none⟩ = some (.int .i64 (t : Int)) := ha.B.cellAt (i := 8) rfl
            obtain ⟨hb, kb⟩ := ha.tick ((t : Int) + 1)
            have HBb := Lib.hid (below_keeps Ba kb Ba.size (fun b hb => by rw [hb]; exact ha.ge _ (by simp [Adr.blocks, Adr.put, Adr.putT, Adr.putA])))
            have Hb : Hid (At w1.heap.size (wa.setCell ⟨d.p, 8, none⟩ (.int .i64 ((t : Int) + 1))) (d.put tva av9) js (ods js) ya ((t + 1 : Nat) : Int)) := Lib.hid hb
            have HOKb := Lib.hid oka
            have hw : wrap64 ((t : Int) + 1) = (t : Int) + 1 := by unfold wrap64; omega
            clear CR ha oka Ba hb kb
            go_wp2_with fail
            go_roundg (G - 1)
            case measure => omega
            case rel => exact ⟨t + 1, tva, av9, ya, by omega, Hb.out, HOKb.out, HBb.out⟩
      · have hlti : ¬ (t : Int) < (E : Int) := by omega
        have htE : t = E := by omega
        subst htE
        have htr : z.tr.length = t := HOK.out.tr
        have HTR := Lib.hid htr
        clear htr
        go_wp2_with fail
        go_loopw [61] (fun v wr => ∃ (k : Nat) (y : St), k ≤ js.length ∧ v = .int .i64 (k : Int) ∧ At w1.heap.size wr (d.put tv av) js (ods js) y (t : Int) ∧ y.tr.length = t ∧ Below w1.heap.size w1 wr) (fun v _ => js.length - (intOf v).toNat)
        case atStart => exact ⟨0, z, by omega, rfl, H.out, HTR.out, HB.out⟩
        case round =>
          clear H HB HTR
          obtain ⟨k, y, hk, rfl, h, hy, B⟩ := hrel
          have HY := Lib.hid hy
          clear hy
          by_cases hkl : k < js.length
          · have hkli : (k : Int) < (js.length : Int) := by omega
            have hi0 : (0 : Int) ≤ (k : Int) := by omega
            have hi1 : (k : Int) + 1 ≤ 9223372036854775807 := by omega
            have b6 : wr.cell? ⟨d.p, 6, none⟩ = some (.slice (some ⟨d.gf, 0, none⟩) js.length d.cf) := h.B.cellAt (i := 6) rfl
            have d0 : wr.cell? ⟨d.gf, k * 2, none⟩ = some (.int .i64 (kdAt y k)) := by have := h.F.cellAt (kd_get h hkl); rwa [Nat.add_zero] at this
            have SI := say_is h hkl 5 0 (by omega)
            rw [Int.add_zero] at SI
            have hgf := Lib.hid (h.ge d.gf (by simp [Adr.blocks, Adr.put]))
            have H := Lib.hid h
            have HB := Lib.hid B
            clear h B
            generalize kdAt y k = kd at *
            by_cases hq : kd = 0
            · have q1 : (kd == 0) = true := by simpa using hq
              have q2 : decide (kd = 0) = true := by simpa using hq
              clear hq
              go_wp2_with (go_at_call 117; refine SI.mono ?_; rintro e w9 ⟨rfl, h9, k9⟩)
              have H9 := Lib.hid h9
              have HB9 := Lib.hid (below_keeps HB.out k9 HB.out.size (fun b hb => by rw [hb]; exact hgf.out))
              clear h9 k9
              go_roundw
              case rel => exact ⟨k + 1, _, by omega, by simp, H9.out, HY.out, HB9.out⟩
              case measure => simp [intOf]; omega
            · have q1 : (kd == 0) = false := by simpa using hq
              have q2 : decide (kd = 0) = false := by simpa using hq
              clear hq
              go_wp2_with fail
              go_roundw
              case rel => exact ⟨k + 1, y, by omega, by simp, H.out, HY.out, HB.out⟩
              case measure => simp [intOf]; omega
          · have hkli : ¬ (k : Int) < (js.length : Int) := by omega
            have hkn : k = js.length := by omega
            subst hkn
            have XO := blk_below HXO.out B
            have fo := XO.frozen
            have o0 := XO.cellAt (i := 0) rfl
            have o1 := XO.cellAt (i := 1) rfl
            have o2 := XO.cellAt (i := 2) rfl
            have p5 : wr.cell? ⟨d.p, 5, none⟩ = some tv := h.B.cellAt (i := 5) rfl
            have p6 : wr.cell? ⟨d.p, 6, none⟩ = some (.slice (some ⟨d.gf, 0, none⟩) js.length d.cf) := h.B.cellAt (i := 6) rfl
            have p7 : wr.cell? ⟨d.p, 7, none⟩ = some av := h.B.cellAt (i := 7) rfl
            rw [HDC.out] at p6
            obtain ⟨A1, c1, e1⟩ := own_shape (v := tv) h.T
            obtain ⟨A3, c3, e3⟩ := own_shape (v := av) h.A
            obtain ⟨tr, htr⟩ : ∃ tr, y.tr = tr := ⟨_, rfl⟩
            obtain ⟨nt, hnt⟩ : ∃ nt, y.tr.length = nt := ⟨_, rfl⟩
            obtain ⟨na, hna⟩ : ∃ na, y.al.length = na := ⟨_, rfl⟩
            rw [hnt] at e1
            rw [hna] at e3
            have H := Lib.hid h
            have HB := Lib.hid B
            have HXB := Lib.hid XO
            have HNT := Lib.hid hnt
            clear h B XO hnt hna htr
            subst e1 e3
            go_wp2_with fail
            have XE := ((HXB.out.set_ 0 (.slice A1 nt c1)).set_ 1 (.slice (some ⟨d.gf, 0, none⟩) js.length js.length)).set_ 2 (.slice A3 na c3)
            have KE : Keeps (· = w.heap.size + 1) wr (((wr.setCell ⟨w.heap.size + 1, 0, none⟩ (.slice A1 nt c1)).setCell ⟨w.heap.size + 1, 1, none⟩ (.slice (some ⟨d.gf, 0, none⟩) js.length js.length)).setCell ⟨w.heap.size + 1, 2, none⟩ (.slice A3 na c3)) :=
              (((keep1 (w.heap.size + 1) wr).setCell _ (.inl rfl) _).setCell _ (.inl rfl) _).setCell _ (.inl rfl) _
            clear fo o0 o1 o2 p5 p6 p7 HXB
            generalize ((wr.setCell ⟨w.heap.size + 1, 0, none⟩ (.slice A1 nt c1)).setCell ⟨w.heap.size + 1, 1, none⟩ (.slice (some ⟨d.gf, 0, none⟩) js.length js.length)).setCell ⟨w.heap.size + 1, 2, none⟩ (.slice A3 na c3) = wE at *
            have r0 : wE.cell? ⟨w.heap.size + 1, 0, none⟩ = some (.slice A1 nt c1) := XE.cellAt (i := 0) rfl
            have r1 : wE.cell? ⟨w.heap.size + 1, 1, none⟩ = some (.slice (some ⟨d.gf, 0, none⟩) js.length js.length) := XE.cellAt (i := 1) rfl
            have r2 : wE.cell? ⟨w.heap.size + 1, 2, none⟩ = some (.slice A3 na c3) := XE.cellAt (i := 2) rfl
            have hOL := HOL.out
            have hT := own_base (own_kept H.out.T KE (fun g _ _ hg e => by have := (own_block_lt H.out.T g (ob_mem.2 hg)).1; omega)) (Nat.le_trans (Nat.le_succ _) (Nat.le_of_lt hOL))
            have hgf : w1.heap.size ≤ d.gf := H.out.ge d.gf (by simp [Adr.blocks, Adr.put])
            have hF := H.out.F.kept KE (show ¬ d.gf = w.heap.size + 1 by omega)
            have hB := below_keeps (HBO.out.trans (HB.out.mono HBO.out.size)) KE (Nat.le_trans HBO.out.size HB.out.size) (fun b hb => by omega)
            have hlf := H.out.lf
            have hy2 : y.tr.length ≤ 10000 := by have := HY.out; omega
            refine bodyPost_ret (v := .tuple #[.agg #[.slice A1 nt c1, .slice (some ⟨d.gf, 0, none⟩) js.length js.length, .slice A3 na c3], .int .i64 0]) (by simp [results, Tryz.results73, go_sem, r0, r1, r2]) rfl ?_
            exact ⟨_, _, ⟨_, _, _, rfl⟩, y.tr, by rw [HNT.out]; rw [HNT.out] at hT; exact hT, y.fs, hF, by omega, hlf, hy2, hB⟩
end
end Dv
end Go.Proofs.YtbgiegecfapmlaaGreatDoor
