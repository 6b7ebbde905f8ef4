/- What every law of chapter 15 asks first; two rows of numbers compared; conditions: none. -/
import Derived.Test.YtpfhogbkbodfjaaFate
namespace Go.Proofs.Ytpfhogbkbodfjaa
open Go.RowKit
set_option linter.unusedVariables false
set_option linter.unusedSimpArgs false
namespace Fate
theorem num_at {w : World} {A : Option Addr} {n c : Nat} {xs : List Int} (h : Has w 3 1 (.slice A n c) n (xs.map (Value.int .i64))) {k : Nat} (hk : k < n) :
    ∃ g off y, A = some ⟨g, off, none⟩ ∧ xs[k]? = some y ∧ w.cell? ⟨g, off + k, none⟩ = some (.int .i64 y) := by
  obtain ⟨g, off, hA, hc⟩ := h.at_ (by omega)
  have hl : xs.length = n := by have := h.1; simpa using this
  have hx : xs[k]? = some (xs[k]'(by omega)) := List.getElem?_eq_getElem (by omega)
  exact ⟨g, off, _, hA, hx, hc k _ (by rw [List.getElem?_map, hx]; rfl)⟩
set_option maxRecDepth 100000 in
set_option maxHeartbeats 1000000 in
theorem ints_same (A B : Option Addr) (n c d : Nat) (xs : List Int) (w : World) (ha : Has w 3 1 (.slice A n c) n (xs.map (Value.int .i64))) (hb : Has w 3 1 (.slice B n d) n (xs.map (Value.int .i64))) :
    Calls Try.prog 41 #[.slice A n c, .slice B n d] w fun e w' => e = .returned (.bool true) ∧ Keeps (fun _ => False) w w' := by
  have hn := ha.len
  have K := Keeps.refl (fun _ => False) w
  go_enter Try.func41, Try.ntmps41
  go_wp2_with fail
  go_loopw [5] (fun i wr => ∃ k : Nat, k ≤ n ∧ i = .int .i64 k ∧ Keeps (fun _ => False) w wr) (fun i _ => n - (intOf i).toNat)
  case atStart => exact ⟨0, by omega, rfl, K⟩
  case round =>
    obtain ⟨k, hk, rfl, HK⟩ := hrel
    by_cases hlt : k < n
    · obtain ⟨g, off, y, rfl, hy, hc⟩ := num_at (ha.kept HK (fun _ _ _ _ h => h)) hlt
      obtain ⟨g2, off2, y2, rfl, hy2, hc2⟩ := num_at (hb.kept HK (fun _ _ _ _ h => h)) hlt
      rw [hy] at hy2
      cases hy2
      clear hy
      have h0 : (0 : Int) ≤ (k : Int) := by omega
      have h1 : (k : Int) < (n : Int) := by omega
      go_wp2_with fail
      go_quiet (fail)
      go_wp2_with fail
      go_roundw
      case rel => exact ⟨k + 1, by omega, by go_num, HK.drewN _⟩
      case measure => simp [intOf]; omega
    · go_wp2_with fail
      go_ret
      exact ⟨rfl, HK⟩
/-- Say, of a job that there is. -/
theorem say_own {B : Nat} (p g : Nat) (xs : List Fa) (i : Nat) (f : Fa) (k t : Int) (w0 w : World) (hl : xs.length ≤ 200) (hB : Below B w0 w) (hz : B ≤ w.heap.size) (hg : B ≤ g) (h : At w p g xs) (hf : xs[i]? = some f) (h1 : 1 ≤ k) (h2 : k ≤ 5) (h3 : 0 ≤ t) (r : Int) (ys : List Fa) (hs : say xs i k t = (r, ys)) :
    Calls Try.prog 17 #[.pointer (some ⟨p, 0, none⟩), .int .i64 (i : Int), .int .i64 k, .int .i64 t] w fun e w' => e = .returned (.int .i64 r) ∧ At w' p g ys ∧ Below B w0 w' ∧ B ≤ w'.heap.size :=
  (say_yes p g xs i f k t w hl h hf h1 h2 h3 r ys hs).mono fun e w' ⟨he, ha, k⟩ => ⟨he, ha, below_keeps hB k hz (fun i hi => by omega), Nat.le_trans hz k.size⟩
set_option maxRecDepth 100000 in
set_option maxHeartbeats 2000000 in
theorem awake_ok (w : World) : Calls Try.prog 15 #[] w fun e w' => e = .returned (.bool true) ∧ Below w.heap.size w w' := by
  have heq : ∀ W : World, (binOp .eql 34 (.agg #[.int .i64 1, .int .i64 5]) (.agg #[.int .i64 1, .int .i64 5])).run Try.prog W = .ok (.bool true) W := fun _ => by kernel_rfl
  go_enter Try.func15, Try.ntmps15
  go_wp2_with fail
  refine (new_any 2 _ (by omega)).mono ?_
  rintro e w1 ⟨p, g, rfl, hp, hg, H1, k1⟩
  have K1 : Below w.heap.size w w1 := k1.below (fun _ _ h => h)
  have z1 := k1.size
  clear k1
  go_wp2_with fail
  refine (say_own p g _ 0 ⟨0, 0⟩ 1 5 w _ (by simp) K1 z1 hg H1 rfl (by omega) (by omega) (by omega) 0 [⟨1, 5⟩, ⟨0, 0⟩] rfl).mono ?_
  rintro e w2 ⟨rfl, H2, K2, z2⟩
  clear H1 K1 z1
  go_wp2_with fail
  refine (say_own p g _ 0 ⟨1, 5⟩ 3 6 w _ (by simp) K2 z2 hg H2 rfl (by omega) (by omega) (by omega) 5 [⟨1, 5⟩, ⟨0, 0⟩] rfl).mono ?_
  rintro e w3 ⟨rfl, H3, K3, z3⟩
  clear H2 K2 z2
  go_wp2_with fail
  refine (of_any p g _ 0 ⟨1, 5⟩ _ (by simp) H3 rfl).mono ?_
  rintro e w4 ⟨rfl, k4⟩
  have H4 := H3.none k4
  have K4 := below_keeps K3 k4 z3 (fun _ h => h.elim)
  have z4 := Nat.le_trans z3 k4.size
  clear k4 H3 K3 z3
  go_wp2_with fail
  have H5 := H4.alloc (.cells #[.int .i64 1, .int .i64 5] 34)
  refine (count_any p g _ 1 _ (by simp) H5).mono ?_
  rintro e w5 ⟨rfl, k5⟩
  have H6 := H5.none k5
  have K6 := below_keeps (K4.alloc z4 (.cells #[.int .i64 1, .int .i64 5] 34)) k5 (Nat.le_trans z4 (by simp)) (fun _ h => h.elim)
  have z6 : w.heap.size ≤ w5.heap.size := Nat.le_trans (Nat.le_trans z4 (by simp)) k5.size
  clear k5 H5 H4 K4 z4
  rw [show count [⟨1, 5⟩, ⟨0, 0⟩] 1 = 1 from rfl]
  go_wp2_with fail
  refine (open_any p g _ _ (by simp) H6).mono ?_
  rintro e w7 ⟨A, c, rfl, HH, k7⟩
  have K7 := below_keeps K6 k7 z6 (fun _ h => h.elim)
  have z7 := Nat.le_trans z6 k7.size
  have e1 : openL [⟨1, 5⟩, ⟨0, 0⟩] = [1] := by decide
  rw [e1] at HH
  rw [e1]
  clear k7 K6 z6 e1
  go_wp2_with fail
  refine (ints_same A (some ⟨w7.heap.size, 0, none⟩) 1 c 1 [1] _ (HH.kept ((Keeps.refl (fun _ => False) _).alloc _) (fun _ _ _ _ h => h)) (Has.box w7 3 1 1 [.int .i64 1] rfl (by unfold maxLen; omega))).mono ?_
  rintro e w8 ⟨rfl, k8⟩
  have K8 := below_keeps (K7.alloc z7 _) k8 (Nat.le_trans z7 (by simp)) (fun _ h => h.elim)
  clear k8
  go_wp2_with fail
  go_ret
  exact ⟨rfl, K8⟩
end Fate
end Go.Proofs.Ytpfhogbkbodfjaa
