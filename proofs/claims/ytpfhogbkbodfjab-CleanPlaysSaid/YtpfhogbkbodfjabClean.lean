/- New of package clean, and what every law of chapter 17 asks first; conditions: none. -/
import Derived.Test.YtpfhogbkbodfjabLife
namespace Go.Proofs.Ytpfhogbkbodfjab
open Go.RowKit
set_option linter.unusedVariables false
set_option linter.unusedSimpArgs false
namespace Clean
def inB (n : Int) : Bool := decide (1 ≤ n ∧ n ≤ 1000)
set_option maxHeartbeats 400000 in
theorem work_any (n : Int) (w : World) : Calls Try.prog 74 #[.int .i64 n] w fun e w' => e = .returned (.bool (inB n)) ∧ w = w' := by
  by_cases h : 1 ≤ n
  · by_cases h2 : n ≤ 1000
    · go_enter Try.func74, Try.ntmps74
      go_wp2
      go_ret
      exact ⟨by simp [inB, h, h2], rfl⟩
    · go_enter Try.func74, Try.ntmps74
      go_wp2
      go_ret
      exact ⟨by simp [inB]; omega, rfl⟩
  · go_enter Try.func74, Try.ntmps74
    go_wp2
    go_ret
    exact ⟨by simp [inB]; omega, rfl⟩
def good (b a c : Int) : Prop := 1 ≤ b ∧ b ≤ 1000 ∧ 1 ≤ a ∧ a ≤ 1000 ∧ 0 ≤ c ∧ c ≤ 100
theorem ok_new {b a c : Int} (h : good b a c) : L.Ok ⟨b, a, c, 0, 0, 0⟩ := by
  obtain ⟨h1, h2, h3, h4, h5, h6⟩ := h
  constructor <;> dsimp only <;> omega
set_option maxHeartbeats 1000000 in
theorem new_any (b a c : Int) (w : World) (h : good b a c) :
    Calls Try.prog 16 #[.int .i64 b, .int .i64 a, .int .i64 c] w fun e w' => ∃ p, e = .returned (.tuple #[.pointer (some ⟨p, 0, none⟩), .int .i64 0]) ∧ w.heap.size ≤ p ∧ At w' p ⟨b, a, c, 0, 0, 0⟩ ∧ Keeps (fun _ => False) w w' := by
  obtain ⟨h1, h2, h3, h4, h5, h6⟩ := h
  have hb : inB b = true := by simp [inB]; omega
  have ha : inB a = true := by simp [inB]; omega
  have HB := Lib.hid hb
  have HA := Lib.hid ha
  clear hb ha
  go_enter Try.func16, Try.ntmps16
  go_wp2_with fail
  refine (work_any b _).mono ?_
  rintro e w1 ⟨rfl, rfl⟩
  rw [HB.out]
  go_wp2_with fail
  refine (work_any a _).mono ?_
  rintro e w1 ⟨rfl, rfl⟩
  rw [HA.out]
  go_wp2_with fail
  go_ret2
  exact ⟨_, rfl, Nat.le_refl _, Blk.new _ _ [_, _, _, _, _, _], (Keeps.refl _ _).alloc _⟩
set_option maxHeartbeats 1000000 in
theorem new_no (b a c : Int) (w : World) (h : ¬ good b a c) :
    Calls Try.prog 16 #[.int .i64 b, .int .i64 a, .int .i64 c] w fun e w' => e = .returned (.tuple #[.pointer none, .int .i64 1]) ∧ w = w' := by
  unfold good at h
  by_cases hb : 1 ≤ b ∧ b ≤ 1000
  · have eb : inB b = true := by simp [inB]; omega
    have HB := Lib.hid eb
    clear eb
    by_cases ha : 1 ≤ a ∧ a ≤ 1000
    · have ea : inB a = true := by simp [inB]; omega
      have HA := Lib.hid ea
      clear ea
      have hc : ¬ (0 ≤ c ∧ c ≤ 100) := by omega
      clear h hb ha
      go_enter Try.func16, Try.ntmps16
      go_wp2_with fail
      refine (work_any b _).mono ?_
      rintro e w1 ⟨rfl, rfl⟩
      rw [HB.out]
      go_wp2_with fail
      refine (work_any a _).mono ?_
      rintro e w1 ⟨rfl, rfl⟩
      rw [HA.out]
      go_wp2_with fail
      all_goals go_ret2
      all_goals exact ⟨rfl, rfl⟩
    · have ea : inB a = false := by simp [inB]; omega
      have HA := Lib.hid ea
      clear ea h hb ha
      go_enter Try.func16, Try.ntmps16
      go_wp2_with fail
      refine (work_any b _).mono ?_
      rintro e w1 ⟨rfl, rfl⟩
      rw [HB.out]
      go_wp2_with fail
      refine (work_any a _).mono ?_
      rintro e w1 ⟨rfl, rfl⟩
      rw [HA.out]
      go_wp2_with fail
      go_ret2
      exact ⟨rfl, rfl⟩
  · have eb : inB b = false := by simp [inB]; omega
    have HB := Lib.hid eb
    clear eb h hb
    go_enter Try.func16, Try.ntmps16
    go_wp2_with fail
    refine (work_any b _).mono ?_
    rintro e w1 ⟨rfl, rfl⟩
    rw [HB.out]
    go_wp2_with fail
    go_ret2
    exact ⟨rfl, rfl⟩
/-- A run of a life that is the call's own. -/
theorem run_own {B : Nat} (p : Nat) (x : L) (w0 w : World) (hr : 0 ≤ x.r ∧ x.r ≤ 1000000) (hk : 0 ≤ x.k ∧ x.k ≤ 1000000) (hp : B ≤ p) (hB : Below B w0 w) (hsz : B ≤ w.heap.size) (h : At w p x) (t : Bool) (y : L) (ht : x.run.1 = t) (hy : x.run.2 = y) :
    Calls Try.prog 19 #[.pointer (some ⟨p, 0, none⟩)] w fun e w' => e = .returned (.bool t) ∧ At w' p y ∧ Below B w0 w' ∧ B ≤ w'.heap.size :=
  (run_any p x w hr hk h).mono fun e w' ⟨he, h1, k⟩ => ⟨by rw [he, ht], by rw [← hy]; exact h1, below_keeps hB k hsz (fun i hi => by omega), Nat.le_trans hsz k.size⟩
set_option maxHeartbeats 1000000 in
theorem awake_ok (w : World) : Calls Try.prog 15 #[] w fun e w' => e = .returned (.bool true) ∧ Below w.heap.size w w' := by
  go_enter Try.func15, Try.ntmps15
  go_wp2_with fail
  refine (new_any 2 3 1 _ (by unfold good; omega)).mono ?_
  rintro e w1 ⟨p, rfl, hp, H1, k1⟩
  have K1 : Below w.heap.size w w1 := k1.below (fun _ _ h => h)
  have z1 := k1.size
  clear k1
  go_wp2_with fail
  refine (left_any p _ _ (ok_new (by unfold good; omega)) H1).mono ?_
  rintro e w2 ⟨rfl, k2⟩
  have K2 := below_keeps K1 k2 z1 (fun _ h => h.elim)
  have H2 := H1.kept k2 (fun h => h)
  have z2 := Nat.le_trans z1 k2.size
  clear k2 K1 H1 z1
  go_wp2_with fail
  refine (run_own p _ w _ (by dsimp only; omega) (by dsimp only; omega) hp K2 z2 H2 true ⟨2, 3, 1, 1, 0, 0⟩ rfl rfl).mono ?_
  rintro e w3 ⟨rfl, H3, K3, z3⟩
  clear H2 K2 z2
  go_wp2_with fail
  refine (run_own p _ w _ (by dsimp only; omega) (by dsimp only; omega) hp K3 z3 H3 true ⟨2, 3, 1, 2, 0, 1⟩ rfl rfl).mono ?_
  rintro e w4 ⟨rfl, H4, K4, z4⟩
  clear H3 K3 z3
  go_wp2_with fail
  refine (stage_any p _ _ H4).mono ?_
  rintro e w5 ⟨rfl, rfl⟩
  go_wp2_with fail
  refine (run_own p _ w _ (by dsimp only; omega) (by dsimp only; omega) hp K4 z4 H4 true ⟨2, 3, 1, 2, 1, 3⟩ rfl rfl).mono ?_
  rintro e w6 ⟨rfl, H6, K6, z6⟩
  clear H4 K4 z4
  go_wp2_with fail
  refine (stage_any p _ _ H6).mono ?_
  rintro e w5 ⟨rfl, rfl⟩
  go_wp2_with fail
  refine (run_own p _ w _ (by dsimp only; omega) (by dsimp only; omega) hp K6 z6 H6 false ⟨2, 3, 1, 2, 1, 3⟩ rfl rfl).mono ?_
  rintro e w7 ⟨rfl, H7, K7, z7⟩
  go_wp2_with fail
  go_ret
  exact ⟨rfl, K7⟩
end Clean
end Go.Proofs.Ytpfhogbkbodfjab
