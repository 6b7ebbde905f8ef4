/- What each function of the reference's Life does; conditions: as for package clean's. -/
import Derived.Test.YtpfhogbkbodfjabLife
namespace Go.Proofs.Ytpfhogbkbodfjab
open Go.RowKit
set_option linter.unusedVariables false
set_option linter.unusedSimpArgs false
namespace RefLife
def At (w : World) (p : Nat) (x : L) : Prop := Blk w p 35 x.cells
theorem At.at_ {w : World} {p : Nat} {x : L} (h : At w p x) : w.cell? ⟨p, 0, none⟩ = some (.int .i64 x.b) ∧ w.cell? ⟨p, 1, none⟩ = some (.int .i64 x.a) ∧ w.cell? ⟨p, 2, none⟩ = some (.int .i64 x.c) ∧
    w.cell? ⟨p, 3, none⟩ = some (.int .i64 x.r) ∧ w.cell? ⟨p, 4, none⟩ = some (.int .i64 x.k) ∧ w.cell? ⟨p, 5, none⟩ = some (.int .i64 x.st) :=
  ⟨Blk.cellAt h rfl, Blk.cellAt h rfl, Blk.cellAt h rfl, Blk.cellAt h rfl, Blk.cellAt h rfl, Blk.cellAt h rfl⟩
set_option maxHeartbeats 1000000 in
theorem abort_any (p : Nat) (x : L) (w : World) (h : At w p x) :
    Calls Try.prog 24 #[.pointer (some ⟨p, 0, none⟩)] w fun e w' => e = .returned (.int .i64 x.abort.1) ∧ At w' p x.abort.2 ∧ Keeps (· = p) w w' := by
  obtain ⟨c0, c1, c2, c3, c4, c5⟩ := h.at_
  have f := Blk.frozen h
  clear c0 c1 c3 c4
  obtain ⟨b, a, c, r, k, st⟩ := x
  dsimp only at c2 c5
  by_cases h0 : st = 0
  · subst h0
    by_cases h1 : c = 0
    · subst h1
      go_enter Try.func24, Try.ntmps24
      go_wp2
      go_ret
      exact ⟨rfl, (Blk.set_ h 5 _).set_ 5 _, ((keep1 p w).setCell _ (.inl rfl) _).setCell _ (.inl rfl) _⟩
    · have hb : (c == 0) = false := by simpa using h1
      go_enter Try.func24, Try.ntmps24
      go_wp2
      go_ret
      refine ⟨rfl, ?_, (keep1 p w).setCell _ (.inl rfl) _⟩
      have := Blk.set_ h 5 (.int .i64 1)
      unfold At L.abort
      simp only [if_true, h1, if_false]
      exact this
  · have hb : (st == 0) = false := by simpa using h0
    go_enter Try.func24, Try.ntmps24
    go_wp2
    go_ret
    unfold L.abort
    simp only [h0, if_false]
    exact ⟨rfl, h, Keeps.refl _ _⟩
set_option maxHeartbeats 2000000 in
theorem run_any (p : Nat) (x : L) (w : World) (hr : 0 ≤ x.r ∧ x.r ≤ 1000000) (hk : 0 ≤ x.k ∧ x.k ≤ 1000000) (h : At w p x) :
    Calls Try.prog 23 #[.pointer (some ⟨p, 0, none⟩)] w fun e w' => e = .returned (.bool x.run.1) ∧ At w' p x.run.2 ∧ Keeps (· = p) w w' := by
  obtain ⟨c0, c1, c2, c3, c4, c5⟩ := h.at_
  have f := Blk.frozen h
  obtain ⟨b, a, c, r, k, st⟩ := x
  dsimp only at c0 c1 c2 c3 c4 c5 hr hk
  obtain ⟨hr0, hr1⟩ := hr
  obtain ⟨hk0, hk1⟩ := hk
  have K := keep1 p w
  by_cases h0 : st = 0
  · subst h0
    have hb := Blk.set_ h 3 (.int .i64 (r + 1))
    have hK := K.setCell ⟨p, 3, none⟩ (.inl rfl) (.int .i64 (r + 1))
    by_cases h1 : r + 1 = a
    · subst h1
      go_enter Try.func23, Try.ntmps23
      go_wp2_with fail
      go_quiet (fail)
      go_wp2_with fail
      go_ret
      refine ⟨by simp [L.run], ?_, (hK.drewN _).setCell _ (.inl rfl) _⟩
      have := (hb.drewN nq).set_ 5 (.int .i64 2)
      unfold At L.run
      simp only [if_true]
      exact this
    · have hb1 : (r + 1 == a) = false := by simpa using h1
      by_cases h2 : r + 1 = b
      · subst h2
        go_enter Try.func23, Try.ntmps23
        go_wp2_with fail
        go_quiet (fail)
        go_wp2_with fail
        go_quiet (fail)
        go_wp2_with fail
        refine (abort_any p ⟨r + 1, a, c, r + 1, k, 0⟩ _ (by exact hb)).mono ?_
        rintro e w1 ⟨rfl, h1', k1⟩
        go_wp2_with fail
        go_ret
        refine ⟨by simp [L.run], ?_, (hK.trans ((keep1 p _).drewN _) (fun i _ h => h)).trans k1 (fun i _ h => h)⟩
        unfold L.abort at h1'
        unfold L.run
        simp only [if_true, h1, if_false] at h1' ⊢
        exact h1'
      · have hb2 : (r + 1 == b) = false := by simpa using h2
        go_enter Try.func23, Try.ntmps23
        go_wp2_with fail
        go_quiet (fail)
        go_wp2_with fail
        go_quiet (fail)
        go_wp2_with fail
        go_ret
        refine ⟨by simp [L.run], ?_, (hK.drewN _).drewN _⟩
        unfold At L.run
        simp only [if_true, h1, h2, if_false]
        exact hb
  · have hb0 : (st == 0) = false := by simpa using h0
    by_cases h1 : st = 1
    · subst h1
      have hb := Blk.set_ h 4 (.int .i64 (k + 1))
      have hK := K.setCell ⟨p, 4, none⟩ (.inl rfl) (.int .i64 (k + 1))
      by_cases h2 : k + 1 = c
      · subst h2
        go_enter Try.func23, Try.ntmps23
        go_wp2_with fail
        go_quiet (fail)
        go_wp2_with fail
        go_ret
        refine ⟨by simp [L.run], ?_, (hK.drewN _).setCell _ (.inl rfl) _⟩
        have := (hb.drewN nq).set_ 5 (.int .i64 3)
        unfold At L.run
        simp only [show ¬ (1 : Int) = 0 from by omega, if_false, if_true]
        exact this
      · have hb2 : (k + 1 == c) = false := by simpa using h2
        go_enter Try.func23, Try.ntmps23
        go_wp2_with fail
        go_quiet (fail)
        go_wp2_with fail
        go_ret
        refine ⟨by simp [L.run], ?_, (hK.drewN _)⟩
        have := (hb.drewN nq)
        unfold At L.run
        simp only [show ¬ (1 : Int) = 0 from by omega, if_false, if_true, h2]
        exact this
    · have hb1 : (st == 1) = false := by simpa using h1
      go_enter Try.func23, Try.ntmps23
      go_wp2_with fail
      go_ret
      refine ⟨by simp [L.run, h0, h1], ?_, K⟩
      unfold L.run
      simp only [h0, h1, if_false]
      exact h
set_option maxHeartbeats 1000000 in
theorem charge_drawn (p : Nat) (x : L) (w : World) (ok : x.Ok) (h : At w p x) :
    Calls Try.prog 26 #[.pointer (some ⟨p, 0, none⟩)] w fun e w' => e = .returned (.int .i64 x.charge) ∧ Drawn w w' := by
  obtain ⟨c0, c1, c2, c3, c4, c5⟩ := h.at_
  clear h
  obtain ⟨b1, b2, a1, a2, g1, g2, r1, r2, r3, k1, k2, s1, s2, e0, e1, e2, e3⟩ := ok
  clear e0 e1 e2 e3
  obtain ⟨b, a, c, r, k, st⟩ := x
  dsimp only at *
  by_cases h0 : st = 0
  · subst h0
    go_enter Try.func26, Try.ntmps26
    go_wp2_with fail
    go_quiet (fail)
    go_wp2_with fail
    go_ret
    exact ⟨by simp [L.charge], by repeat (first | exact Drawn.refl _ | apply Drawn.drewN)⟩
  · have hb0 : (st == 0) = false := by simpa using h0
    by_cases h1 : st = 1
    · subst h1
      go_enter Try.func26, Try.ntmps26
      go_wp2_with fail
      go_quiet (fail)
      go_wp2_with fail
      go_ret
      exact ⟨by simp [L.charge], by repeat (first | exact Drawn.refl _ | apply Drawn.drewN)⟩
    · have hb1 : (st == 1) = false := by simpa using h1
      go_enter Try.func26, Try.ntmps26
      go_wp2_with fail
      go_ret
      exact ⟨by simp [L.charge, h0, h1], by repeat (first | exact Drawn.refl _ | apply Drawn.drewN)⟩
theorem charge_any (p : Nat) (x : L) (w : World) (ok : x.Ok) (h : At w p x) :
    Calls Try.prog 26 #[.pointer (some ⟨p, 0, none⟩)] w fun e w' => e = .returned (.int .i64 x.charge) ∧ Keeps (fun _ => False) w w' := (charge_drawn p x w ok h).mono fun _ _ ⟨he, hd⟩ => ⟨he, hd.keeps _⟩
set_option maxHeartbeats 2000000 in
theorem left_any (p : Nat) (x : L) (w : World) (ok : x.Ok) (h : At w p x) :
    Calls Try.prog 25 #[.pointer (some ⟨p, 0, none⟩)] w fun e w' => e = .returned (.int .i64 x.left) ∧ Keeps (fun _ => False) w w' := by
  obtain ⟨c0, c1, c2, c3, c4, c5⟩ := h.at_
  have hxl := L.left_le ok
  go_enter Try.func25, Try.ntmps25
  go_wp2_with fail
  have hq : At (w.alloc (.cells x.cells.toArray 35)) w.heap.size x := Blk.new _ _ _
  have hkk : Keeps (fun _ => False) w (w.alloc (.cells x.cells.toArray 35)) := (Keeps.refl _ _).alloc _
  obtain ⟨hx0, hx1, hx2⟩ := hxl
  clear h c0 c1 c2 c3 c4 c5 hx2
  go_loopw [4] (fun i wr => ∃ (n : Int) (y : L), i = .int .i64 n ∧ 0 ≤ n ∧ n + y.left = x.left ∧ y.Ok ∧ At wr w.heap.size y ∧ Keeps (fun _ => False) w wr) (fun i _ => (2000 - intOf i).toNat)
  case atStart => exact ⟨0, x, rfl, by omega, by omega, ok, hq, hkk⟩
  case round =>
    obtain ⟨n, y, rfl, hn, hny, oy, hy, hk⟩ := hrel
    have hyl := L.left_le oy
    have hlr := L.left_run oy
    have hr := And.intro oy.r1 (show y.r ≤ 1000000 by have := oy.r2; have := oy.b2; omega)
    have hkb := And.intro oy.k1 (show y.k ≤ 1000000 by have := oy.k2; have := oy.c2; omega)
    have hn2 : n < 2000 := by omega
    obtain ⟨t, ht⟩ : ∃ t, y.run.1 = t := ⟨_, rfl⟩
    have HT := Lib.hid ht
    have HLR := Lib.hid hlr
    have HNY := Lib.hid hny
    have HYL := Lib.hid hyl
    clear ht hlr hny hyl
    go_wp2_with fail
    refine (run_any _ y _ hr hkb hy).mono ?_
    rintro e w2 ⟨rfl, hy2, k2⟩
    rw [HT.out]
    have hk2 : Keeps (fun _ => False) w w2 := ⟨k2.os.trans hk.os, k2.tape.trans hk.tape, k2.output.trans hk.output, Nat.le_trans hk.size k2.size, fun i hi _ => (k2.block i (Nat.lt_of_lt_of_le hi hk.size) (by omega)).trans (hk.block i hi (fun h => h))⟩
    cases t with
    | true =>
      go_wp2_with fail
      go_roundw
      case rel => exact ⟨n + 1, y.run.2, rfl, by omega, by have := HLR.out.1 HT.out; have := HNY.out; omega, L.Ok.run oy, hy2, hk2⟩
      case measure => simp [intOf]; omega
    | false =>
      have HE := Lib.hid (show n = x.left by have := HLR.out.2 HT.out; have := HNY.out; omega)
      go_wp2_with fail
      go_ret
      exact ⟨by rw [← HE.out]; rfl, hk2⟩
end RefLife
end Go.Proofs.Ytpfhogbkbodfjab
