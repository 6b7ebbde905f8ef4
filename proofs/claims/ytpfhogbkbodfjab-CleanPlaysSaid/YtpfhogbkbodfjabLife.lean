/- What each function of package clean does to one Life; conditions: its counters are between 0 and a million. -/
import Derived.Test.YtpfhogbkbodfjabBase
namespace Go.Proofs.Ytpfhogbkbodfjab
open Go.RowKit
set_option linter.unusedVariables false
set_option linter.unusedSimpArgs false
/-- One job's life. -/
structure L where
  b : Int
  a : Int
  c : Int
  r : Int
  k : Int
  st : Int
namespace L
def cells (x : L) : List Value := [.int .i64 x.b, .int .i64 x.a, .int .i64 x.c, .int .i64 x.r, .int .i64 x.k, .int .i64 x.st]
def abort (x : L) : Int × L := if x.st = 0 then (0, { x with st := if x.c = 0 then 3 else 1 }) else (4, x)
def run (x : L) : Bool × L :=
  if x.st = 0 then (true, if x.r + 1 = x.a then { x with r := x.r + 1, st := 2 } else if x.r + 1 = x.b then { x with r := x.r + 1, st := if x.c = 0 then 3 else 1 } else { x with r := x.r + 1 })
  else if x.st = 1 then (true, if x.k + 1 = x.c then { x with k := x.k + 1, st := 3 } else { x with k := x.k + 1 })
  else (false, x)
def left (x : L) : Int := if x.st = 0 then (if x.a ≤ x.b then x.a - x.r else x.b - x.r + x.c) else if x.st = 1 then x.c - x.k else 0
def charge (x : L) : Int := if x.st = 0 then x.b - x.r + x.c else if x.st = 1 then x.c - x.k else 0
structure Ok (x : L) : Prop where
  b1 : 1 ≤ x.b
  b2 : x.b ≤ 1000
  a1 : 1 ≤ x.a
  a2 : x.a ≤ 1000
  c1 : 0 ≤ x.c
  c2 : x.c ≤ 100
  r1 : 0 ≤ x.r
  r2 : x.r ≤ x.b
  r3 : x.r ≤ x.a
  k1 : 0 ≤ x.k
  k2 : x.k ≤ x.c
  s1 : 0 ≤ x.st
  s2 : x.st ≤ 3
  e0 : x.st = 0 → x.r < x.a ∧ x.r < x.b ∧ x.k = 0
  e1 : x.st = 1 → x.k < x.c ∧ x.r < x.a
  e2 : x.st = 2 → x.r = x.a
  e3 : x.st = 3 → x.r < x.a
theorem Ok.run {x : L} (h : Ok x) : Ok x.run.2 := by
  obtain ⟨b1, b2, a1, a2, c1, c2, r1, r2, r3, k1, k2, s1, s2, e0, e1, e2, e3⟩ := h
  obtain ⟨b, a, c, r, k, st⟩ := x
  simp only at *
  unfold L.run
  dsimp only
  by_cases h0 : st = 0
  · subst h0
    obtain ⟨f1, f2, f3⟩ := e0 rfl
    rw [if_pos rfl]
    by_cases h1 : r + 1 = a
    · rw [if_pos h1]
      constructor <;> dsimp only <;> omega
    · rw [if_neg h1]
      by_cases h2 : r + 1 = b
      · rw [if_pos h2]
        by_cases h3 : c = 0
        · rw [if_pos h3]; constructor <;> dsimp only <;> omega
        · rw [if_neg h3]; constructor <;> dsimp only <;> omega
      · rw [if_neg h2]; constructor <;> dsimp only <;> omega
  · rw [if_neg h0]
    by_cases h1 : st = 1
    · subst h1
      obtain ⟨f1, f2⟩ := e1 rfl
      rw [if_pos rfl]
      by_cases h2 : k + 1 = c
      · rw [if_pos h2]; constructor <;> dsimp only <;> omega
      · rw [if_neg h2]; constructor <;> dsimp only <;> omega
    · rw [if_neg h1]
      exact ⟨b1, b2, a1, a2, c1, c2, r1, r2, r3, k1, k2, s1, s2, e0, e1, e2, e3⟩
theorem Ok.abort {x : L} (h : Ok x) : Ok x.abort.2 := by
  obtain ⟨b1, b2, a1, a2, c1, c2, r1, r2, r3, k1, k2, s1, s2, e0, e1, e2, e3⟩ := h
  obtain ⟨b, a, c, r, k, st⟩ := x
  simp only at *
  unfold L.abort
  dsimp only
  by_cases h0 : st = 0
  · subst h0
    obtain ⟨f1, f2, f3⟩ := e0 rfl
    rw [if_pos rfl]
    by_cases h3 : c = 0
    · rw [if_pos h3]; constructor <;> dsimp only <;> omega
    · rw [if_neg h3]; constructor <;> dsimp only <;> omega
  · rw [if_neg h0]
    exact ⟨b1, b2, a1, a2, c1, c2, r1, r2, r3, k1, k2, s1, s2, e0, e1, e2, e3⟩
/-- A run takes one off what is left. -/
theorem left_run {x : L} (h : Ok x) : (x.run.1 = true → x.run.2.left = x.left - 1 ∧ 1 ≤ x.left) ∧ (x.run.1 = false → x.left = 0 ∧ x.run.2 = x) := by
  obtain ⟨b1, b2, a1, a2, c1, c2, r1, r2, r3, k1, k2, s1, s2, e0, e1, e2, e3⟩ := h
  obtain ⟨b, a, c, r, k, st⟩ := x
  simp only at *
  unfold L.run L.left
  dsimp only
  by_cases h0 : st = 0
  · subst h0
    obtain ⟨f1, f2, f3⟩ := e0 rfl
    simp only [if_true]
    by_cases h1 : r + 1 = a
    · simp only [h1, if_true]
      refine ⟨fun _ => ?_, fun h => by cases h⟩
      constructor <;> (repeat' split) <;> omega
    · simp only [h1, if_false]
      by_cases h2 : r + 1 = b
      · simp only [h2, if_true]
        refine ⟨fun _ => ?_, fun h => by cases h⟩
        rw [if_neg (by omega)]
        by_cases h3 : c = 0
        · simp only [h3, if_true, show ¬ (3 : Int) = 0 from by omega, show ¬ (3 : Int) = 1 from by omega, if_false]; omega
        · simp only [h3, if_false, show ¬ (1 : Int) = 0 from by omega, if_true]; omega
      · simp only [h2, if_false, if_true]
        refine ⟨fun _ => ?_, fun h => by cases h⟩
        split <;> omega
  · simp only [h0, if_false]
    by_cases h1 : st = 1
    · subst h1
      obtain ⟨f1, f2⟩ := e1 rfl
      simp only [if_true]
      by_cases h2 : k + 1 = c
      · simp only [h2, if_true]
        refine ⟨fun _ => ?_, fun h => by cases h⟩
        simp only [show ¬ (3 : Int) = 0 from by omega, show ¬ (3 : Int) = 1 from by omega, if_false]; omega
      · simp only [h2, if_false, show ¬ (1 : Int) = 0 from by omega, if_true]
        exact ⟨fun _ => by omega, fun h => by cases h⟩
    · simp only [h1, if_false]
      exact ⟨(fun h => by cases h), fun _ => ⟨trivial, trivial⟩⟩
theorem left_le {x : L} (h : Ok x) : 0 ≤ x.left ∧ x.left ≤ 1100 ∧ x.left ≤ x.charge := by
  obtain ⟨b1, b2, a1, a2, c1, c2, r1, r2, r3, k1, k2, s1, s2, e0, e1, e2, e3⟩ := h
  unfold left charge
  by_cases h0 : x.st = 0
  · rw [if_pos h0, if_pos h0]; split <;> omega
  · rw [if_neg h0, if_neg h0]; split <;> omega
end L
namespace Clean
def At (w : World) (p : Nat) (x : L) : Prop := Blk w p 113 x.cells
theorem At.at_ {w : World} {p : Nat} {x : L} (h : At w p x) : w.cell? ⟨p, 0, none⟩ = some (.int .i64 x.b) ∧ w.cell? ⟨p, 1, none⟩ = some (.int .i64 x.a) ∧ w.cell? ⟨p, 2, none⟩ = some (.int .i64 x.c) ∧
    w.cell? ⟨p, 3, none⟩ = some (.int .i64 x.r) ∧ w.cell? ⟨p, 4, none⟩ = some (.int .i64 x.k) ∧ w.cell? ⟨p, 5, none⟩ = some (.int .i64 x.st) :=
  ⟨Blk.cellAt h rfl, Blk.cellAt h rfl, Blk.cellAt h rfl, Blk.cellAt h rfl, Blk.cellAt h rfl, Blk.cellAt h rfl⟩
set_option maxHeartbeats 400000 in
theorem stage_any (p : Nat) (x : L) (w : World) (h : At w p x) :
    Calls Try.prog 20 #[.pointer (some ⟨p, 0, none⟩)] w fun e w' => e = .returned (.int .i64 x.st) ∧ w = w' := by
  have c5 := h.at_.2.2.2.2.2
  clear h
  go_enter Try.func20, Try.ntmps20
  go_wp2
  go_ret
  exact ⟨rfl, rfl⟩
set_option maxHeartbeats 400000 in
theorem used_any (p : Nat) (x : L) (w : World) (h : At w p x) :
    Calls Try.prog 22 #[.pointer (some ⟨p, 0, none⟩)] w fun e w' => e = .returned (.tuple #[.int .i64 x.r, .int .i64 x.k]) ∧ Keeps (fun _ => False) w w' := by
  obtain ⟨c0, c1, c2, c3, c4, c5⟩ := h.at_
  clear h c0 c1 c2 c5
  go_enter Try.func22, Try.ntmps22
  go_wp2
  all_goals (try go_region)
  all_goals go_wp2
  all_goals go_ret2
  all_goals exact ⟨rfl, by repeat (first | exact Keeps.refl _ _ | apply Keeps.drew)⟩
set_option maxHeartbeats 1000000 in
theorem abort_any (p : Nat) (x : L) (w : World) (h : At w p x) :
    Calls Try.prog 21 #[.pointer (some ⟨p, 0, none⟩)] w fun e w' => e = .returned (.int .i64 x.abort.1) ∧ At w' p x.abort.2 ∧ Keeps (· = p) w w' := by
  obtain ⟨c0, c1, c2, c3, c4, c5⟩ := h.at_
  have f := Blk.frozen h
  clear c0 c1 c3 c4
  obtain ⟨b, a, c, r, k, st⟩ := x
  dsimp only at c2 c5
  by_cases h0 : st = 0
  · subst h0
    by_cases h1 : c = 0
    · subst h1
      go_enter Try.func21, Try.ntmps21
      go_wp2
      go_ret
      exact ⟨rfl, (Blk.set_ h 5 _).set_ 5 _, ((keep1 p w).setCell _ (.inl rfl) _).setCell _ (.inl rfl) _⟩
    · have hb : (c == 0) = false := by simpa using h1
      go_enter Try.func21, Try.ntmps21
      go_wp2
      go_ret
      refine ⟨rfl, ?_, (keep1 p w).setCell _ (.inl rfl) _⟩
      have := Blk.set_ h 5 (.int .i64 1)
      unfold At L.abort
      simp only [if_true, h1, if_false]
      exact this
  · have hb : (st == 0) = false := by simpa using h0
    go_enter Try.func21, Try.ntmps21
    go_wp2
    go_ret
    unfold L.abort
    simp only [h0, if_false]
    exact ⟨rfl, h, Keeps.refl _ _⟩
set_option maxHeartbeats 2000000 in
theorem run_any (p : Nat) (x : L) (w : World) (hr : 0 ≤ x.r ∧ x.r ≤ 1000000) (hk : 0 ≤ x.k ∧ x.k ≤ 1000000) (h : At w p x) :
    Calls Try.prog 19 #[.pointer (some ⟨p, 0, none⟩)] w fun e w' => e = .returned (.bool x.run.1) ∧ At w' p x.run.2 ∧ Keeps (· = p) w w' := by
  obtain ⟨c0, c1, c2, c3, c4, c5⟩ := h.at_
  have f := Blk.frozen h
  obtain ⟨b, a, c, r, k, st⟩ := x
  dsimp only at c0 c1 c2 c3 c4 c5 hr hk
  obtain ⟨hr0, hr1⟩ := hr
  obtain ⟨hk0, hk1⟩ := hk
  have K := keep1 p w
  by_cases h0 : st = 0
  · subst h0
    have hb := Blk.set_ h 3 (.int .i64 (r + 1))
    have hK := K.setCell ⟨p, 3, none⟩ (.inl rfl) (.int .i64 (r + 1))
    by_cases h1 : r + 1 = a
    · subst h1
      go_enter Try.func19, Try.ntmps19
      go_wp2_with fail
      go_ret
      refine ⟨by simp [L.run], ?_, hK.setCell _ (.inl rfl) _⟩
      have := hb.set_ 5 (.int .i64 2)
      unfold At L.run
      simp only [if_true]
      exact this
    · have hb1 : (r + 1 == a) = false := by simpa using h1
      by_cases h2 : r + 1 = b
      · subst h2
        go_enter Try.func19, Try.ntmps19
        go_wp2_with fail
        refine (abort_any p ⟨r + 1, a, c, r + 1, k, 0⟩ _ hb).mono ?_
        rintro e w1 ⟨rfl, h1', k1⟩
        go_wp2_with fail
        go_ret
        refine ⟨by simp [L.run], ?_, hK.trans k1 (fun i _ h => h)⟩
        unfold L.abort at h1'
        unfold L.run
        simp only [if_true, h1, if_false] at h1' ⊢
        exact h1'
      · have hb2 : (r + 1 == b) = false := by simpa using h2
        go_enter Try.func19, Try.ntmps19
        go_wp2_with fail
        go_ret
        refine ⟨by simp [L.run], ?_, hK⟩
        unfold At L.run
        simp only [if_true, h1, h2, if_false]
        exact hb
  · have hb0 : (st == 0) = false := by simpa using h0
    by_cases h1 : st = 1
    · subst h1
      have hb := Blk.set_ h 4 (.int .i64 (k + 1))
      have hK := K.setCell ⟨p, 4, none⟩ (.inl rfl) (.int .i64 (k + 1))
      by_cases h2 : k + 1 = c
      · subst h2
        go_enter Try.func19, Try.ntmps19
        go_wp2_with fail
        go_quiet (fail)
        go_wp2_with fail
        go_ret
        refine ⟨by simp [L.run], ?_, (hK.drewN _).setCell _ (.inl rfl) _⟩
        have := (hb.drewN nq).set_ 5 (.int .i64 3)
        unfold At L.run
        simp only [show ¬ (1 : Int) = 0 from by omega, if_false, if_true]
        exact this
      · have hb2 : (k + 1 == c) = false := by simpa using h2
        go_enter Try.func19, Try.ntmps19
        go_wp2_with fail
        go_quiet (fail)
        go_wp2_with fail
        go_ret
        refine ⟨by simp [L.run], ?_, (hK.drewN _)⟩
        have := (hb.drewN nq)
        unfold At L.run
        simp only [show ¬ (1 : Int) = 0 from by omega, if_false, if_true, h2]
        exact this
    · have hb1 : (st == 1) = false := by simpa using h1
      go_enter Try.func19, Try.ntmps19
      go_wp2_with fail
      go_ret
      refine ⟨by simp [L.run, h0, h1], ?_, K⟩
      unfold L.run
      simp only [h0, h1, if_false]
      exact h
set_option maxHeartbeats 1000000 in
theorem left_drawn (p : Nat) (x : L) (w : World) (ok : x.Ok) (h : At w p x) :
    Calls Try.prog 17 #[.pointer (some ⟨p, 0, none⟩)] w fun e w' => e = .returned (.int .i64 x.left) ∧ Drawn w w' := by
  obtain ⟨c0, c1, c2, c3, c4, c5⟩ := h.at_
  clear h
  obtain ⟨b1, b2, a1, a2, g1, g2, r1, r2, r3, k1, k2, s1, s2, e0, e1, e2, e3⟩ := ok
  clear e0 e1 e2 e3
  obtain ⟨b, a, c, r, k, st⟩ := x
  dsimp only at *
  by_cases h0 : st = 0
  · subst h0
    by_cases h1 : a ≤ b
    · go_enter Try.func17, Try.ntmps17
      go_wp2_with fail
      go_quiet (fail)
      go_wp2_with fail
      go_quiet (fail)
      go_wp2_with fail
      go_ret
      exact ⟨by simp [L.left, h1], by repeat (first | exact Drawn.refl _ | apply Drawn.drewN)⟩
    · go_enter Try.func17, Try.ntmps17
      go_wp2_with fail
      go_quiet (fail)
      go_wp2_with fail
      go_quiet (fail)
      go_wp2_with fail
      go_ret
      exact ⟨by simp [L.left]; omega, by repeat (first | exact Drawn.refl _ | apply Drawn.drewN)⟩
  · have hb0 : (st == 0) = false := by simpa using h0
    by_cases h1 : st = 1
    · subst h1
      go_enter Try.func17, Try.ntmps17
      go_wp2_with fail
      go_quiet (fail)
      go_wp2_with fail
      go_ret
      exact ⟨by simp [L.left], by repeat (first | exact Drawn.refl _ | apply Drawn.drewN)⟩
    · have hb1 : (st == 1) = false := by simpa using h1
      go_enter Try.func17, Try.ntmps17
      go_wp2_with fail
      go_ret
      exact ⟨by simp [L.left, h0, h1], by repeat (first | exact Drawn.refl _ | apply Drawn.drewN)⟩
set_option maxHeartbeats 1000000 in
theorem charge_drawn (p : Nat) (x : L) (w : World) (ok : x.Ok) (h : At w p x) :
    Calls Try.prog 18 #[.pointer (some ⟨p, 0, none⟩)] w fun e w' => e = .returned (.int .i64 x.charge) ∧ Drawn w w' := by
  obtain ⟨c0, c1, c2, c3, c4, c5⟩ := h.at_
  clear h
  obtain ⟨b1, b2, a1, a2, g1, g2, r1, r2, r3, k1, k2, s1, s2, e0, e1, e2, e3⟩ := ok
  clear e0 e1 e2 e3
  obtain ⟨b, a, c, r, k, st⟩ := x
  dsimp only at *
  by_cases h0 : st = 0
  · subst h0
    go_enter Try.func18, Try.ntmps18
    go_wp2_with fail
    go_quiet (fail)
    go_wp2_with fail
    go_ret
    exact ⟨by simp [L.charge], by repeat (first | exact Drawn.refl _ | apply Drawn.drewN)⟩
  · have hb0 : (st == 0) = false := by simpa using h0
    by_cases h1 : st = 1
    · subst h1
      go_enter Try.func18, Try.ntmps18
      go_wp2_with fail
      go_quiet (fail)
      go_wp2_with fail
      go_ret
      exact ⟨by simp [L.charge], by repeat (first | exact Drawn.refl _ | apply Drawn.drewN)⟩
    · have hb1 : (st == 1) = false := by simpa using h1
      go_enter Try.func18, Try.ntmps18
      go_wp2_with fail
      go_ret
      exact ⟨by simp [L.charge, h0, h1], by repeat (first | exact Drawn.refl _ | apply Drawn.drewN)⟩
theorem left_any (p : Nat) (x : L) (w : World) (ok : x.Ok) (h : At w p x) :
    Calls Try.prog 17 #[.pointer (some ⟨p, 0, none⟩)] w fun e w' => e = .returned (.int .i64 x.left) ∧ Keeps (fun _ => False) w w' := (left_drawn p x w ok h).mono fun _ _ ⟨he, hd⟩ => ⟨he, hd.keeps _⟩
theorem charge_any (p : Nat) (x : L) (w : World) (ok : x.Ok) (h : At w p x) :
    Calls Try.prog 18 #[.pointer (some ⟨p, 0, none⟩)] w fun e w' => e = .returned (.int .i64 x.charge) ∧ Keeps (fun _ => False) w w' := (charge_drawn p x w ok h).mono fun _ _ ⟨he, hd⟩ => ⟨he, hd.keeps _⟩
end Clean
end Go.Proofs.Ytpfhogbkbodfjab
