/- What every law of chapter 16 asks first; two rows of numbers alike; conditions: none. -/
import Derived.Test.YtpfhogbkbodfjabFirmRead
import Derived.Test.YtpfhogbkbodfjabArgs
namespace Go.Proofs.Ytpfhogbkbodfjab
open Go.RowKit
set_option linter.unusedVariables false
set_option linter.unusedSimpArgs false
namespace Mon
open Win
theorem num_at {w : World} {A : Option Addr} {n c : Nat} {l : List Nat} (h : Has w 3 1 (.slice A n c) n (nums l)) {k : Nat} (hk : k < n) :
    ∃ g off x, A = some ⟨g, off, none⟩ ∧ l[k]? = some x ∧ w.cell? ⟨g, off + k, none⟩ = some (.int .i64 (x : Int)) := by
  obtain ⟨g, off, hA, hc⟩ := h.at_ (by omega)
  have hl : l.length = n := by have := h.1; simpa [nums] using this
  have hx : l[k]? = some (l[k]'(by omega)) := List.getElem?_eq_getElem (by omega)
  exact ⟨g, off, _, hA, hx, hc k _ (by unfold nums; rw [List.getElem?_map, hx]; rfl)⟩
set_option maxHeartbeats 1000000 in
theorem ints_eq {w : World} (A B : Option Addr) (n c d : Nat) (l : List Nat) (h1 : Has w 3 1 (.slice A n c) n (nums l)) (h2 : Has w 3 1 (.slice B n d) n (nums l)) (hn : n ≤ 1000) :
    Calls Try.prog 72 #[.slice A n c, .slice B n d] w fun e w' => e = .returned (.bool true) ∧ Drawn w w' := by
  go_enter Try.func72, Try.ntmps72
  go_wp2_with fail
  go_loopw [5] (fun i wr => ∃ j : Nat, j ≤ n ∧ i = .int .i64 j ∧ Drawn w wr) (fun i _ => n - (intOf i).toNat)
  case atStart => exact ⟨0, Nat.zero_le _, rfl, Drawn.refl w⟩
  case round =>
    obtain ⟨j, hj, rfl, D⟩ := hrel
    by_cases hlt : j < n
    · have k := D.keeps (fun _ => False)
      obtain ⟨g, off, x, hA, hx, e1⟩ := num_at (h1.kept k (fun _ _ _ _ h => h)) hlt
      obtain ⟨g', off', x', hB, hx', e2⟩ := num_at (h2.kept k (fun _ _ _ _ h => h)) hlt
      rw [hx] at hx'
      cases hx'
      subst hA hB
      have j0 : (0 : Int) ≤ (j : Int) := by omega
      have j1 : (j : Int) < (n : Int) := by omega
      clear h1 h2 hx k
      go_wp2_with fail
      go_quiet (fail)
      go_wp2_with fail
      go_roundw
      case rel => exact ⟨j + 1, by omega, by go_num, D.drewN _⟩
      case measure => simp [intOf]; omega
    · go_wp2_with fail
      go_ret
      exact ⟨rfl, D⟩
/-- .. of the call's own. -/
structure Mem1 (w : World) (p : Nat) (F : Nat → Prop) (m k : Nat) (xs : List Bool) (bs : List Nat) (wr : World) : Prop where
  P : Is wr p F m k xs bs
  bF : ∀ b, F b → w.heap.size ≤ b
  B : Below w.heap.size w wr
section
variable {w : World} {p m k : Nat} {F : Nat → Prop} {xs : List Bool} {bs : List Nat} {w1 w2 : World}
theorem Mem1.keep (h : Mem1 w p F m k xs bs w1) (kp : Keeps (fun _ => False) w1 w2) : Mem1 w p F m k xs bs w2 := ⟨h.P.stay kp, h.bF, below_keeps h.B kp h.B.size (fun _ h => h.elim)⟩
theorem Mem1.onP (h : Mem1 w p F m k xs bs w1) {F' : Nat → Prop} {xs' : List Bool} {bs' : List Nat} (kp : Keeps F w1 w2) (hI : Is w2 p F' m k xs' bs') (hF : ∀ b, F' b → F b ∨ w1.heap.size ≤ b) : Mem1 w p F' m k xs' bs' w2 :=
  ⟨hI, fun b hb => (hF b hb).elim (h.bF b) (fun h' => Nat.le_trans h.B.size h'), below_keeps h.B kp h.B.size h.bF⟩
theorem Mem1.other (h : Mem1 w p F m k xs bs w1) {S : Nat → Prop} (kp : Keeps S w1 w2) (hS : ∀ b, F b → ¬ S b) (hb : ∀ b, S b → w.heap.size ≤ b) : Mem1 w p F m k xs bs w2 :=
  ⟨h.P.kept kp hS, h.bF, below_keeps h.B kp h.B.size hb⟩
end
theorem new_m (m k : Nat) (w wa : World) (ba : Below w.heap.size w wa) (h1 : 1 ≤ k) (h2 : k ≤ 64) (hm : m ≤ k) :
    Calls Try.prog 64 #[.int .i64 (m : Int), .int .i64 (k : Int)] wa fun e w' => ∃ p F, e = .returned (.tuple #[.pointer (some ⟨p, 0, none⟩), .int .i64 0]) ∧ Mem1 w p F m k [] [] w' ∧ (∀ b, F b → wa.heap.size ≤ b) ∧ Keeps (fun _ => False) wa w' := by
  refine (new_is m k wa h1 h2 hm).mono ?_
  rintro e w' ⟨p, F, he, hi, hF, kp⟩
  exact ⟨p, F, he, ⟨hi, fun b hb => Nat.le_trans ba.size (hF b hb), below_keeps ba kp ba.size (fun _ h => h.elim)⟩, hF, kp⟩
theorem add_m {w : World} {p m k : Nat} {F : Nat → Prop} {xs : List Bool} {bs : List Nat} (y : Bool) (wr : World) (M : Mem1 w p F m k xs bs wr) (h1 : 1 ≤ k) (h2 : k ≤ 64) (hm : m ≤ k) (hl : xs.length ≤ 300) (hbl : bs.length ≤ 300) (b : Bool) (hb : bad m k (xs ++ [y]) = b) (bs' : List Nat) (hbs : (bs ++ if b = true then [xs.length] else []) = bs') :
    Calls Try.prog 65 #[.pointer (some ⟨p, 0, none⟩), .bool y] wr fun e w' => e = .returned (.bool (!b)) ∧ (∃ F', Mem1 w p F' m k (xs ++ [y]) bs' w') ∧ Keeps F wr w' := by
  subst hb hbs
  refine (add_is y M.P h1 h2 hm hl hbl).mono ?_
  rintro e w' ⟨he, ⟨F', hi, hf⟩, kp⟩
  exact ⟨he, ⟨F', M.onP kp hi hf⟩, kp⟩
set_option maxRecDepth 100000 in
set_option maxHeartbeats 2000000 in
theorem awake_ok (w : World) : Calls Try.prog 63 #[] w fun e w' => e = .returned (.bool true) ∧ Below w.heap.size w w' := by
  go_enter Try.func63, Try.ntmps63
  go_wp2_with fail
  refine (new_m 1 2 w w (Below.refl _ _) (by omega) (by omega) (by omega)).mono ?_
  rintro e w1 ⟨p, F, rfl, M1, _, _⟩
  go_wp2_with fail
  refine (add_m true _ M1 (by omega) (by omega) (by omega) (by simp) (by simp) false (by decide) [] rfl).mono ?_
  rintro e w2 ⟨rfl, ⟨F2, M2⟩, _⟩
  clear M1
  go_wp2_with fail
  refine (add_m false _ M2 (by omega) (by omega) (by omega) (by simp) (by simp) false (by decide) [] rfl).mono ?_
  rintro e w3 ⟨rfl, ⟨F3, M3⟩, _⟩
  clear M2
  go_wp2_with fail
  refine (add_m false _ M3 (by omega) (by omega) (by omega) (by simp) (by simp) true (by decide) [2] rfl).mono ?_
  rintro e w4 ⟨rfl, ⟨F4, M4⟩, _⟩
  clear M3
  go_wp2_with fail
  refine (broken_is M4.P (by simp)).mono ?_
  rintro e w5 ⟨A5, c5, rfl, R5, k5⟩
  have M5 := M4.keep k5
  clear M4 k5
  have R6 := R5.kept ((Keeps.refl (fun _ => False) w5).alloc (.cells #[.int .i64 2] 3)) (fun _ _ _ _ h => h)
  have X6 : Has (w5.alloc (.cells #[.int .i64 2] 3)) 3 1 (.slice (some ⟨w5.heap.size, 0, none⟩) 1 1) 1 (nums [2]) := Has.box w5 3 1 1 [.int .i64 2] rfl (by unfold maxLen; omega)
  have B6 := below_keeps M5.B ((Keeps.refl (fun _ => False) w5).alloc (.cells #[.int .i64 2] 3)) M5.B.size (fun _ h => h.elim)
  clear R5 M5
  go_wp2_with fail
  refine (ints_eq _ _ 1 _ _ [2] R6 X6 (by omega)).mono ?_
  rintro e w7 ⟨rfl, D7⟩
  have B7 := below_keeps B6 (D7.keeps (fun _ => False)) B6.size (fun _ h => h.elim)
  go_wp2_with fail
  go_ret
  exact ⟨rfl, B7⟩
end Mon
end Go.Proofs.Ytpfhogbkbodfjab
