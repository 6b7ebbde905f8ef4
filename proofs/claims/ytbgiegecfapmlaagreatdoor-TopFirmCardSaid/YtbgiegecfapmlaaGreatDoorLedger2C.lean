/- Earn and Lose at any arguments; Earned, Lost, Till, Rows; what every law of chapter 14 asks first; conditions: at most 100 rows. -/
import Derived.Test.YtbgiegecfapmlaaGreatDoorLedger
namespace Go.Proofs.YtbgiegecfapmlaaGreatDoor
open Go.RowKit
set_option linter.unusedVariables false
set_option linter.unusedSimpArgs false
namespace Led

set_option maxHeartbeats 1000000 in
theorem earn_no (p m : Nat) (A : Option Addr) (c : Nat) (l : List (ByteArray × Value)) (xs : List LRow) (t : Int) (n : ByteArray) (v : Int) (w : World) (hl : xs.length ≤ 99) (h : At w p m A c l xs) (r : Int) (hm : may xs t v (earn xs) = r) (hr : r ≠ 0) :
    Calls Tryz.prog 78 #[.pointer (some ⟨p, 0, none⟩), .int .i64 t, .string n, .int .i64 v] w fun e w' => e = .returned (.int .i64 r) ∧ Drawn w w' := by
  have hc1 := h.B.cellAt (i := 1) rfl
  have HM := Lib.hid hm
  have hrb : (r != 0) = true := by simpa using hr
  have e0 := earn_nn xs
  have e1 := h.X.e
  have l0 := loss_nn xs
  have l1 := h.X.l
  clear hm hr
  go_enter Tryz.func78, Tryz.ntmps78
  go_wp2_with fail
  refine (may_any p m A c l xs t v (earn xs) _ (by omega) h e0 e1).mono ?_
  rintro e w1 ⟨rfl, D1⟩
  rw [HM.out]
  go_wp2_with fail
  go_ret
  exact ⟨rfl, D1⟩
theorem earn_any (p : Nat) (F : Nat → Prop) (xs : List LRow) (t : Int) (n : ByteArray) (v : Int) (w : World) (hl : xs.length ≤ 99) (h : Is w p F xs) (ht : t ≤ 9223372036854775807) (hn : n.size ≤ maxLen) (r : Int) (ys : List LRow) (hs : add xs t n v true = (r, ys)) :
    Calls Tryz.prog 78 #[.pointer (some ⟨p, 0, none⟩), .int .i64 t, .string n, .int .i64 v] w fun e w' => e = .returned (.int .i64 r) ∧ (∃ F', Is w' p F' ys ∧ ∀ b, F' b → F b ∨ w.heap.size ≤ b) ∧ Keeps F w w' := by
  obtain ⟨m, A, c, l, ha, rfl⟩ := h
  unfold add at hs
  simp only [if_true] at hs
  by_cases hm : may xs t v (earn xs) = 0
  · rw [if_pos hm] at hs
    cases hs
    refine (earn_yes p m A c l xs t n v w hl ha hm ht hn).mono ?_
    rintro e w' ⟨he, ⟨A', c', l', h1, h2⟩, hk⟩
    exact ⟨he, ⟨Foot p m A', ⟨m, A', c', l', h1, rfl⟩, h2⟩, hk⟩
  · rw [if_neg hm] at hs
    cases hs
    refine (earn_no p m A c l xs t n v w hl ha _ rfl hm).mono ?_
    rintro e w' ⟨he, hd⟩
    exact ⟨he, ⟨Foot p m A, ⟨m, A, c, l, ha.stay (hd.keeps _), rfl⟩, fun b hb => .inl hb⟩, hd.keeps _⟩
/-- .. of a Ledger of the call's own. -/
theorem earn_own {B : Nat} {w0 : World} (p : Nat) (F : Nat → Prop) (xs : List LRow) (t : Int) (n : ByteArray) (v : Int) (w : World) (hl : xs.length ≤ 99) (h : Is w p F xs) (ht : t ≤ 9223372036854775807) (hn : n.size ≤ maxLen) (r : Int) (ys : List LRow) (hs : add xs t n v true = (r, ys))
    (hB : Below B w0 w) (hz : B ≤ w.heap.size) (hF : ∀ b, F b → B ≤ b) :
    Calls Tryz.prog 78 #[.pointer (some ⟨p, 0, none⟩), .int .i64 t, .string n, .int .i64 v] w fun e w' => e = .returned (.int .i64 r) ∧ ∃ F', Is w' p F' ys ∧ (∀ b, F' b → B ≤ b) ∧ Below B w0 w' ∧ B ≤ w'.heap.size := by
  refine (earn_any p F xs t n v w hl h ht hn r ys hs).mono ?_
  rintro e w' ⟨he, ⟨F', h1, h2⟩, hk⟩
  exact ⟨he, F', h1, fun b hb => (h2 b hb).elim (hF b) (fun h => Nat.le_trans hz h), below_keeps hB hk hz hF, Nat.le_trans hz hk.size⟩

set_option maxHeartbeats 1000000 in
theorem lose_no (p m : Nat) (A : Option Addr) (c : Nat) (l : List (ByteArray × Value)) (xs : List LRow) (t : Int) (n : ByteArray) (v : Int) (w : World) (hl : xs.length ≤ 99) (h : At w p m A c l xs) (r : Int) (hm : may xs t v (loss xs) = r) (hr : r ≠ 0) :
    Calls Tryz.prog 79 #[.pointer (some ⟨p, 0, none⟩), .int .i64 t, .string n, .int .i64 v] w fun e w' => e = .returned (.int .i64 r) ∧ Drawn w w' := by
  have hc1 := h.B.cellAt (i := 2) rfl
  have HM := Lib.hid hm
  have hrb : (r != 0) = true := by simpa using hr
  have e0 := earn_nn xs
  have e1 := h.X.e
  have l0 := loss_nn xs
  have l1 := h.X.l
  clear hm hr
  go_enter Tryz.func79, Tryz.ntmps79
  go_wp2_with fail
  refine (may_any p m A c l xs t v (loss xs) _ (by omega) h l0 l1).mono ?_
  rintro e w1 ⟨rfl, D1⟩
  rw [HM.out]
  go_wp2_with fail
  go_ret
  exact ⟨rfl, D1⟩
theorem lose_any (p : Nat) (F : Nat → Prop) (xs : List LRow) (t : Int) (n : ByteArray) (v : Int) (w : World) (hl : xs.length ≤ 99) (h : Is w p F xs) (ht : t ≤ 9223372036854775807) (hn : n.size ≤ maxLen) (r : Int) (ys : List LRow) (hs : add xs t n v false = (r, ys)) :
    Calls Tryz.prog 79 #[.pointer (some ⟨p, 0, none⟩), .int .i64 t, .string n, .int .i64 v] w fun e w' => e = .returned (.int .i64 r) ∧ (∃ F', Is w' p F' ys ∧ ∀ b, F' b → F b ∨ w.heap.size ≤ b) ∧ Keeps F w w' := by
  obtain ⟨m, A, c, l, ha, rfl⟩ := h
  unfold add at hs
  simp only [Bool.false_eq_true, if_false] at hs
  by_cases hm : may xs t v (loss xs) = 0
  · rw [if_pos hm] at hs
    cases hs
    refine (lose_yes p m A c l xs t n v w hl ha hm ht hn).mono ?_
    rintro e w' ⟨he, ⟨A', c', l', h1, h2⟩, hk⟩
    exact ⟨he, ⟨Foot p m A', ⟨m, A', c', l', h1, rfl⟩, h2⟩, hk⟩
  · rw [if_neg hm] at hs
    cases hs
    refine (lose_no p m A c l xs t n v w hl ha _ rfl hm).mono ?_
    rintro e w' ⟨he, hd⟩
    exact ⟨he, ⟨Foot p m A, ⟨m, A, c, l, ha.stay (hd.keeps _), rfl⟩, fun b hb => .inl hb⟩, hd.keeps _⟩
/-- .. of a Ledger of the call's own. -/
theorem lose_own {B : Nat} {w0 : World} (p : Nat) (F : Nat → Prop) (xs : List LRow) (t : Int) (n : ByteArray) (v : Int) (w : World) (hl : xs.length ≤ 99) (h : Is w p F xs) (ht : t ≤ 9223372036854775807) (hn : n.size ≤ maxLen) (r : Int) (ys : List LRow) (hs : add xs t n v false = (r, ys))
    (hB : Below B w0 w) (hz : B ≤ w.heap.size) (hF : ∀ b, F b → B ≤ b) :
    Calls Tryz.prog 79 #[.pointer (some ⟨p, 0, none⟩), .int .i64 t, .string n, .int .i64 v] w fun e w' => e = .returned (.int .i64 r) ∧ ∃ F', Is w' p F' ys ∧ (∀ b, F' b → B ≤ b) ∧ Below B w0 w' ∧ B ≤ w'.heap.size := by
  refine (lose_any p F xs t n v w hl h ht hn r ys hs).mono ?_
  rintro e w' ⟨he, ⟨F', h1, h2⟩, hk⟩
  exact ⟨he, F', h1, fun b hb => (h2 b hb).elim (hF b) (fun h => Nat.le_trans hz h), below_keeps hB hk hz hF, Nat.le_trans hz hk.size⟩

theorem earned_any (p : Nat) (F : Nat → Prop) (xs : List LRow) (w : World) (h : Is w p F xs) :
    Calls Tryz.prog 80 #[.pointer (some ⟨p, 0, none⟩)] w fun e w' => e = .returned (.int .i64 (earn xs)) ∧ w = w' := by
  obtain ⟨m, A, c, l, ha, rfl⟩ := h
  have hc1 := ha.B.cellAt (i := 1) rfl
  go_enter Tryz.func80, Tryz.ntmps80
  go_wp2_with fail
  go_ret
  exact ⟨rfl, rfl⟩

theorem lost_any (p : Nat) (F : Nat → Prop) (xs : List LRow) (w : World) (h : Is w p F xs) :
    Calls Tryz.prog 81 #[.pointer (some ⟨p, 0, none⟩)] w fun e w' => e = .returned (.int .i64 (loss xs)) ∧ w = w' := by
  obtain ⟨m, A, c, l, ha, rfl⟩ := h
  have hc1 := ha.B.cellAt (i := 2) rfl
  go_enter Tryz.func81, Tryz.ntmps81
  go_wp2_with fail
  go_ret
  exact ⟨rfl, rfl⟩

end Led
end Go.Proofs.YtbgiegecfapmlaaGreatDoor
