/- What each function of package firm does to one Monitor; conditions: 1 ≤ k ≤ 64, m ≤ k, at most 1000 were told. -/
import Derived.Test.YtpfhogbkbodfjabFirm
import Derived.Test.YtpfhogbkbodfjabSlice
import Derived.Deep.RegionLaw
import Derived.IntWalk
import Derived.LoopTactic
namespace Go.Proofs.Ytpfhogbkbodfjab
open Go.RowKit
set_option linter.unusedVariables false
set_option linter.unusedSimpArgs false
namespace Mon
open Win
theorem yes_w {p k : Nat} {m kk s n t wo : Int} {v : Value} (xs : List Bool) {w : World} (h2 : k ≤ 64) (hb : Blk w p 144 (Ring.mon m kk s n (val xs % 2 ^ k) t v wo)) :
    Calls Try.prog 83 #[.pointer (some ⟨p, 2, none⟩)] w fun e w' => e = .returned (.int .i64 ((W k xs : Nat) : Int)) ∧ w = w' := by
  have h := Ring.yes_in p m kk s n _ t v wo w (mod_lt k h2 xs) hb
  rw [pop_W k h2] at h
  exact h
set_option maxRecDepth 100000 in
set_option maxHeartbeats 1000000 in
theorem add_good (p : Nat) (A : Option Addr) (c m k : Nat) (xs : List Bool) (bs : List Nat) (y : Bool) (w : World) (h : At w p A c m k xs bs) (h1 : 1 ≤ k) (h2 : k ≤ 64) (hm : m ≤ k) (hl : xs.length ≤ 999) (hs : k ≤ xs.length + 1) (hg : m ≤ W k (xs ++ [y])) :
    Calls Try.prog 65 #[.pointer (some ⟨p, 0, none⟩), .bool y] w fun e w' => e = .returned (.bool true) ∧ At w' p A c m k (xs ++ [y]) bs ∧ Keeps (Foot p A) w w' := by
  have hmn : (0 : Int) ≤ ((min xs.length k : Nat) : Int) := by omega
  have hmk : ((min xs.length k : Nat) : Int) ≤ (k : Int) := by omega
  have hk1 : (1 : Int) ≤ (k : Int) := by omega
  have hk2 : (k : Int) ≤ 64 := by omega
  have hlt := h.lt
  have HLT := Lib.hid hlt
  have hnp := h.np
  have hB := h.B
  have hBl := h.Bl
  clear hlt h
  go_enter Try.func65, Try.ntmps65
  go_wp2_with fail
  refine (Ring.add_in p _ _ _ _ _ _ _ _ y w hk1 hk2 hmn hmk hBl).mono ?_
  rintro e w1 ⟨rfl, B1, k1⟩
  have O1 := own_kept hB k1 (fun g _ _ hg e => hnp (by rw [← e]; exact hg))
  rw [Win.addB_val, show min (((min xs.length k : Nat) : Int) + 1) (k : Int) = ((min (xs ++ [y]).length k : Nat) : Int) by simp; omega] at B1
  have K1 : Keeps (Foot p A) w w1 := k1.mono (fun _ _ h => .inl h)
  clear hBl hB k1 hmn hmk
  have c1 := B1.cellAt (i := 1) rfl
  have c5 := B1.cellAt (i := 5) rfl
  have f1 := B1.frozen
  have hx0 : (0 : Int) ≤ (xs.length : Int) := by omega
  have hx1 : (xs.length : Int) ≤ 1000 := by omega
  have B2 : Blk _ p 144 (Ring.mon (m : Int) (k : Int) (k : Int) ((min (xs ++ [y]).length k : Nat) : Int) (val (xs ++ [y]) % 2 ^ k) ((xs.length : Int) + 1) (.slice A bs.length c) ((wst k xs : Nat) : Int)) := B1.set_ 5 (.int .i64 ((xs.length : Int) + 1))
  have O2 := own_kept O1 (S := (· = p)) ((keep1 p w1).setCell ⟨p, 5, none⟩ (.inl rfl) (.int .i64 ((xs.length : Int) + 1))) (fun g _ _ hg e => hnp (by rw [← e]; exact hg))
  have K2 := K1.setCell ⟨p, 5, none⟩ (.inl (.inl rfl)) (.int .i64 ((xs.length : Int) + 1))
  go_wp2_with fail
  clear c1 c5 f1 B1 O1 K1
  generalize w1.setCell ⟨p, 5, none⟩ (.int .i64 ((xs.length : Int) + 1)) = w2 at *
  have d1 : w2.cell? ⟨p, 1, none⟩ = some (.int .i64 (k : Int)) := B2.cellAt (i := 1) rfl
  have d5 : w2.cell? ⟨p, 5, none⟩ = some (.int .i64 ((xs.length : Int) + 1)) := B2.cellAt (i := 5) rfl
  have hs' : ¬ (xs.length : Int) + 1 < (k : Int) := by omega
  go_quiet (fail)
  go_wp2_with fail
  have B3 := B2.drewN nq
  have O3 := own_kept O2 (S := fun _ => False) ((Keeps.refl _ w2).drewN nq) (fun _ _ _ _ h => h)
  have K3 := K2.drewN nq
  clear d1 d5 B2 O2 K2
  generalize w2.drewN nq = w3 at *
  have d7 : w3.cell? ⟨p, 7, none⟩ = some (.int .i64 ((wst k xs : Nat) : Int)) := B3.cellAt (i := 7) rfl
  have f3 := B3.frozen
  have y3 : Calls Try.prog 83 #[.pointer (some ⟨p, 2, none⟩)] w3.drew fun e w'' => e = .returned (.int .i64 ((W k (xs ++ [y]) : Nat) : Int)) ∧ w'' = w3.drew := (yes_w (xs ++ [y]) h2 B3.drew).mono (fun e w'' h => ⟨h.1, h.2.symm⟩)
  obtain ⟨Wn, hWn⟩ : ∃ n : Nat, n = W k (xs ++ [y]) := ⟨_, rfl⟩
  rw [← hWn] at y3 hg
  have hWk : Wn ≤ k := by rw [hWn]; exact W_le _ _
  have HW := Lib.hid hWn
  clear hWn
  obtain ⟨wo, hwo⟩ : ∃ n : Nat, n = wst k xs := ⟨_, rfl⟩
  rw [← hwo] at d7
  have hwk : wo ≤ k := by rw [hwo]; exact wst_le _ _
  have HO := Lib.hid hwo
  clear hwo
  have g0 : (0 : Int) ≤ (Wn : Int) := by omega
  have g1 : (0 : Int) ≤ (wo : Int) := by omega
  have HG := Lib.hid hg
  clear hg
  by_cases hc : (Wn : Int) < (wo : Int)
  · skip
    refine wp_region_still_tail 10 (by kernel_rfl) (by kernel_rfl) ?_
    simp only [List.take_succ_cons, List.take_zero, List.drop_succ_cons, List.drop_zero]
    iterate 8 still_step
    still_call y3
    still_step
    refine wpStill_nil ?_
    clear y3
    have hmin : (min wo Wn : Nat) = Wn := by omega
    have HM := Lib.hid hmin
    clear hmin
    have B4 : Blk _ p 144 (Ring.mon (m : Int) (k : Int) (k : Int) ((min (xs ++ [y]).length k : Nat) : Int) (val (xs ++ [y]) % 2 ^ k) ((xs.length : Int) + 1) (.slice A bs.length c) ((Wn : Nat) : Int)) := (B3.set_ 7 (.int .i64 ((Wn : Nat) : Int))).drew
    have O4 := own_kept O3 (S := (· = p)) (((keep1 p w3).setCell ⟨p, 7, none⟩ (.inl rfl) (.int .i64 ((Wn : Nat) : Int))).drew) (fun g _ _ hg e => hnp (by rw [← e]; exact hg))
    have K4 := (K3.setCell ⟨p, 7, none⟩ (.inl (.inl rfl)) (.int .i64 ((Wn : Nat) : Int))).drew
    go_wp2_with fail
    clear d7 f3 B3 O3 K3
    generalize (w3.setCell ⟨p, 7, none⟩ (.int .i64 ((Wn : Nat) : Int))).drew = w4 at *
    have e0 : w4.cell? ⟨p, 0, none⟩ = some (.int .i64 (m : Int)) := B4.cellAt (i := 0) rfl
    have Y4 := Lib.hid (fun n => quiet_eq (n := n) (w := w4) (by have h := yes_w (xs ++ [y]) h2 (B4.drewN n); rw [← HW.out] at h; exact h))
    have hgi : ¬ (Wn : Int) < (m : Int) := by have := HG.out; omega
    go_quiet ((go_at_call 83; exact Y4.out _))
    go_wp2_with fail
    go_ret
    refine ⟨rfl, ⟨?_, own_kept O4 (S := fun _ => False) ((Keeps.refl _ _).drewN _) (fun _ _ _ _ h => h)⟩, K4.drewN _⟩
    unfold cs
    rw [wst_snoc, if_pos hs, ← HW.out, ← HO.out, HM.out]
    have := B4.drewN nq
    simpa [Ring.mon] using this
  · skip
    refine wp_region_still_tail 10 (by kernel_rfl) (by kernel_rfl) ?_
    simp only [List.take_succ_cons, List.take_zero, List.drop_succ_cons, List.drop_zero]
    iterate 8 still_step
    still_call y3
    still_step
    refine wpStill_nil ?_
    clear y3
    have hmin : (min wo Wn : Nat) = wo := by omega
    have HM := Lib.hid hmin
    clear hmin
    have B4 : Blk _ p 144 (Ring.mon (m : Int) (k : Int) (k : Int) ((min (xs ++ [y]).length k : Nat) : Int) (val (xs ++ [y]) % 2 ^ k) ((xs.length : Int) + 1) (.slice A bs.length c) ((wo : Nat) : Int)) := (B3.set_ 7 (.int .i64 ((wo : Nat) : Int))).drew
    have O4 := own_kept O3 (S := (· = p)) (((keep1 p w3).setCell ⟨p, 7, none⟩ (.inl rfl) (.int .i64 ((wo : Nat) : Int))).drew) (fun g _ _ hg e => hnp (by rw [← e]; exact hg))
    have K4 := (K3.setCell ⟨p, 7, none⟩ (.inl (.inl rfl)) (.int .i64 ((wo : Nat) : Int))).drew
    go_wp2_with fail
    clear d7 f3 B3 O3 K3
    generalize (w3.setCell ⟨p, 7, none⟩ (.int .i64 ((wo : Nat) : Int))).drew = w4 at *
    have e0 : w4.cell? ⟨p, 0, none⟩ = some (.int .i64 (m : Int)) := B4.cellAt (i := 0) rfl
    have Y4 := Lib.hid (fun n => quiet_eq (n := n) (w := w4) (by have h := yes_w (xs ++ [y]) h2 (B4.drewN n); rw [← HW.out] at h; exact h))
    have hgi : ¬ (Wn : Int) < (m : Int) := by have := HG.out; omega
    go_quiet ((go_at_call 83; exact Y4.out _))
    go_wp2_with fail
    go_ret
    refine ⟨rfl, ⟨?_, own_kept O4 (S := fun _ => False) ((Keeps.refl _ _).drewN _) (fun _ _ _ _ h => h)⟩, K4.drewN _⟩
    unfold cs
    rw [wst_snoc, if_pos hs, ← HW.out, ← HO.out, HM.out]
    have := B4.drewN nq
    simpa [Ring.mon] using this
set_option maxRecDepth 100000 in
set_option maxHeartbeats 2000000 in
theorem add_bad (p : Nat) (A : Option Addr) (c m k : Nat) (xs : List Bool) (bs : List Nat) (y : Bool) (w : World) (h : At w p A c m k xs bs) (h1 : 1 ≤ k) (h2 : k ≤ 64) (hm : m ≤ k) (hl : xs.length ≤ 999) (hbl : bs.length ≤ 1000) (hs : k ≤ xs.length + 1) (hg : W k (xs ++ [y]) < m) :
    Calls Try.prog 65 #[.pointer (some ⟨p, 0, none⟩), .bool y] w fun e w' => e = .returned (.bool false) ∧ (∃ A' c', At w' p A' c' m k (xs ++ [y]) (bs ++ [xs.length]) ∧ ∀ b, Foot p A' b → Foot p A b ∨ w.heap.size ≤ b) ∧ Keeps (Foot p A) w w' := by
  obtain ⟨i0, hi0, hz0, hz1, hz2⟩ := info_parts infoI
  have hmn : (0 : Int) ≤ ((min xs.length k : Nat) : Int) := by omega
  have hmk : ((min xs.length k : Nat) : Int) ≤ (k : Int) := by omega
  have hk1 : (1 : Int) ≤ (k : Int) := by omega
  have hk2 : (k : Int) ≤ 64 := by omega
  have hlt := h.lt
  have HLT := Lib.hid hlt
  have hnp := h.np
  have hB := h.B
  have hBl := h.Bl
  clear hlt h
  go_enter Try.func65, Try.ntmps65
  go_wp2_with fail
  refine (Ring.add_in p _ _ _ _ _ _ _ _ y w hk1 hk2 hmn hmk hBl).mono ?_
  rintro e w1 ⟨rfl, B1, k1⟩
  have O1 := own_kept hB k1 (fun g _ _ hg e => hnp (by rw [← e]; exact hg))
  rw [Win.addB_val, show min (((min xs.length k : Nat) : Int) + 1) (k : Int) = ((min (xs ++ [y]).length k : Nat) : Int) by simp; omega] at B1
  have K1 : Keeps (Foot p A) w w1 := k1.mono (fun _ _ h => .inl h)
  clear hBl hB k1 hmn hmk
  have c1 := B1.cellAt (i := 1) rfl
  have c5 := B1.cellAt (i := 5) rfl
  have f1 := B1.frozen
  have hx0 : (0 : Int) ≤ (xs.length : Int) := by omega
  have hx1 : (xs.length : Int) ≤ 1000 := by omega
  have B2 : Blk _ p 144 (Ring.mon (m : Int) (k : Int) (k : Int) ((min (xs ++ [y]).length k : Nat) : Int) (val (xs ++ [y]) % 2 ^ k) ((xs.length : Int) + 1) (.slice A bs.length c) ((wst k xs : Nat) : Int)) := B1.set_ 5 (.int .i64 ((xs.length : Int) + 1))
  have O2 := own_kept O1 (S := (· = p)) ((keep1 p w1).setCell ⟨p, 5, none⟩ (.inl rfl) (.int .i64 ((xs.length : Int) + 1))) (fun g _ _ hg e => hnp (by rw [← e]; exact hg))
  have K2 := K1.setCell ⟨p, 5, none⟩ (.inl (.inl rfl)) (.int .i64 ((xs.length : Int) + 1))
  go_wp2_with fail
  clear c1 c5 f1 B1 O1 K1
  generalize w1.setCell ⟨p, 5, none⟩ (.int .i64 ((xs.length : Int) + 1)) = w2 at *
  have d1 : w2.cell? ⟨p, 1, none⟩ = some (.int .i64 (k : Int)) := B2.cellAt (i := 1) rfl
  have d5 : w2.cell? ⟨p, 5, none⟩ = some (.int .i64 ((xs.length : Int) + 1)) := B2.cellAt (i := 5) rfl
  have hs' : ¬ (xs.length : Int) + 1 < (k : Int) := by omega
  go_quiet (fail)
  go_wp2_with fail
  have B3 := B2.drewN nq
  have O3 := own_kept O2 (S := fun _ => False) ((Keeps.refl _ w2).drewN nq) (fun _ _ _ _ h => h)
  have K3 := K2.drewN nq
  clear d1 d5 B2 O2 K2
  generalize w2.drewN nq = w3 at *
  have d7 : w3.cell? ⟨p, 7, none⟩ = some (.int .i64 ((wst k xs : Nat) : Int)) := B3.cellAt (i := 7) rfl
  have f3 := B3.frozen
  have y3 : Calls Try.prog 83 #[.pointer (some ⟨p, 2, none⟩)] w3.drew fun e w'' => e = .returned (.int .i64 ((W k (xs ++ [y]) : Nat) : Int)) ∧ w'' = w3.drew := (yes_w (xs ++ [y]) h2 B3.drew).mono (fun e w'' h => ⟨h.1, h.2.symm⟩)
  obtain ⟨Wn, hWn⟩ : ∃ n : Nat, n = W k (xs ++ [y]) := ⟨_, rfl⟩
  rw [← hWn] at y3 hg
  have hWk : Wn ≤ k := by rw [hWn]; exact W_le _ _
  have HW := Lib.hid hWn
  clear hWn
  obtain ⟨wo, hwo⟩ : ∃ n : Nat, n = wst k xs := ⟨_, rfl⟩
  rw [← hwo] at d7
  have hwk : wo ≤ k := by rw [hwo]; exact wst_le _ _
  have HO := Lib.hid hwo
  clear hwo
  have g0 : (0 : Int) ≤ (Wn : Int) := by omega
  have g1 : (0 : Int) ≤ (wo : Int) := by omega
  have HG := Lib.hid hg
  clear hg
  by_cases hc : (Wn : Int) < (wo : Int)
  · skip
    refine wp_region_still_tail 10 (by kernel_rfl) (by kernel_rfl) ?_
    simp only [List.take_succ_cons, List.take_zero, List.drop_succ_cons, List.drop_zero]
    iterate 8 still_step
    still_call y3
    still_step
    refine wpStill_nil ?_
    clear y3
    have hmin : (min wo Wn : Nat) = Wn := by omega
    have HM := Lib.hid hmin
    clear hmin
    have B4 : Blk _ p 144 (Ring.mon (m : Int) (k : Int) (k : Int) ((min (xs ++ [y]).length k : Nat) : Int) (val (xs ++ [y]) % 2 ^ k) ((xs.length : Int) + 1) (.slice A bs.length c) ((Wn : Nat) : Int)) := (B3.set_ 7 (.int .i64 ((Wn : Nat) : Int))).drew
    have O4 := own_kept O3 (S := (· = p)) (((keep1 p w3).setCell ⟨p, 7, none⟩ (.inl rfl) (.int .i64 ((Wn : Nat) : Int))).drew) (fun g _ _ hg e => hnp (by rw [← e]; exact hg))
    have K4 := (K3.setCell ⟨p, 7, none⟩ (.inl (.inl rfl)) (.int .i64 ((Wn : Nat) : Int))).drew
    go_wp2_with fail
    clear d7 f3 B3 O3 K3
    generalize (w3.setCell ⟨p, 7, none⟩ (.int .i64 ((Wn : Nat) : Int))).drew = w4 at *
    have e0 : w4.cell? ⟨p, 0, none⟩ = some (.int .i64 (m : Int)) := B4.cellAt (i := 0) rfl
    have Y4 := Lib.hid (fun n => quiet_eq (n := n) (w := w4) (by have h := yes_w (xs ++ [y]) h2 (B4.drewN n); rw [← HW.out] at h; exact h))
    have hgi : (Wn : Int) < (m : Int) := by have := HG.out; omega
    go_quiet ((go_at_call 83; exact Y4.out _))
    go_wp2_with fail
    have B5 := B4.drewN nq
    have O5 := own_kept O4 (S := fun _ => False) ((Keeps.refl _ w4).drewN nq) (fun _ _ _ _ h => h)
    have K5 := K4.drewN nq
    clear e0 Y4 B4 O4 K4
    generalize w4.drewN nq = w5 at *
    have d5 : w5.cell? ⟨p, 5, none⟩ = some (.int .i64 ((xs.length : Int) + 1)) := B5.cellAt (i := 5) rfl
    have d6 : w5.cell? ⟨p, 6, none⟩ = some (.slice A bs.length c) := B5.cellAt (i := 6) rfl
    have d6a : (w5.alloc (.cells #[.int .i64 (xs.length : Int)] 3)).cell? ⟨p, 6, none⟩ = some (.slice A bs.length c) := (B5.alloc (.cells #[.int .i64 (xs.length : Int)] 3)).cellAt (i := 6) rfl
    have z5 := K5.size
    have b1 : bs.length + 1 ≤ maxLen := by unfold maxLen; omega
    have b2 : (bs.length + 1) * 8 ≤ 140737488355328 := by omega
    have b3 : 1 ≤ maxLen := by unfold maxLen; omega
    have hw : IntKind.i64.wrap (xs.length : Int) = (xs.length : Int) := IntWalk.i64_in _ (by omega)
    go_region_law (refine step_append_has rfl (.tmp 51) (.tmp 57) 58 rfl i0 _ 8 Try.underlying58 hi0 hz0 hz1 hz2 rfl (by decide) (by simp [Act.eval, Act.put]) (own_kept O5 ((Keeps.refl (fun _ => False) w5).alloc _) (fun _ _ _ _ h => h)).drew (some ⟨w5.heap.size, 0, none⟩) 1 1 [.int .i64 (xs.length : Int)] (by simp [Act.eval, Act.put]) (by have := Has.box w5 3 1 1 [.int .i64 (xs.length : Int)] rfl b3; exact this) (ints_one .i64 [(xs.length : Int)]) b1 b2 (Nat.zero_le _) ?_; intro v7 w7 own7 g7 at7; obtain ⟨A7, c7, hv7⟩ := own_shape own7; subst hv7; have G7 : (w5.alloc (.cells #[.int .i64 (xs.length : Int)] 3)).grownBy w7 (Value.slice A bs.length c).ownBlock := ⟨g7.os, g7.tape, g7.output, g7.size, g7.block⟩; have B7 := (B5.alloc (.cells #[.int .i64 (xs.length : Int)] 3)).grown G7 hnp; have b6 := B7.cellAt (i := 6) rfl; have fp := B7.frozen; have K7 : Keeps (Foot p A) w w7 := keeps_grown (K5.alloc _) G7 (fun g hg => .inl (.inr ((own_same A _ _ _ _).trans hg))); have z7 : (Value.slice A7 (bs.length + 1) c7).ownBlock = (Value.slice A bs.length c).ownBlock ∨ (Value.slice A7 (bs.length + 1) c7).ownBlock = some (w5.heap.size + 1) := (by have e : ((w5.alloc (.cells #[.int .i64 (xs.length : Int)] 3)).drew).heap.size = w5.heap.size + 1 := (by simp); rw [← e]; exact at7); have n7 := own_type_ne own7 B7 (by decide); clear g7 at7 G7)
    all_goals
      clear hw
      go_wp2_with fail
      go_ret
      have hl7 : (bs ++ [xs.length]).length = bs.length + 1 := by simp
      have hn7 : nums (bs ++ [xs.length]) = nums bs ++ [.int .i64 (xs.length : Int)] := by simp [nums]
      refine ⟨rfl, ⟨A7, c7, ⟨?_, ?_⟩, ?_⟩, K7.setCell _ (.inl (.inl rfl)) _⟩
      · unfold cs
        rw [wst_snoc, if_pos hs, ← HW.out, ← HO.out, HM.out, hl7]
        have := B7.set_ 6 (.slice A7 (bs.length + 1) c7)
        simpa [Ring.mon] using this
      · rw [hl7, hn7]
        exact own_kept own7 (S := (· = p)) ((keep1 p w7).setCell ⟨p, 6, none⟩ (.inl rfl) (.slice A7 (bs.length + 1) c7)) (fun g _ _ hg e => n7 (by rw [← e]; exact hg))
      · rintro b (rfl | hb)
        · exact .inl (.inl rfl)
        · rw [own_same _ 0 0 (bs.length + 1) c7] at hb
          rcases z7 with z | z
          · exact .inl (.inr (by rw [own_same A 0 0 bs.length c, ← z]; exact hb))
          · rw [z] at hb
            injection hb with hb
            exact .inr (by omega)
  · skip
    refine wp_region_still_tail 10 (by kernel_rfl) (by kernel_rfl) ?_
    simp only [List.take_succ_cons, List.take_zero, List.drop_succ_cons, List.drop_zero]
    iterate 8 still_step
    still_call y3
    still_step
    refine wpStill_nil ?_
    clear y3
    have hmin : (min wo Wn : Nat) = wo := by omega
    have HM := Lib.hid hmin
    clear hmin
    have B4 : Blk _ p 144 (Ring.mon (m : Int) (k : Int) (k : Int) ((min (xs ++ [y]).length k : Nat) : Int) (val (xs ++ [y]) % 2 ^ k) ((xs.length : Int) + 1) (.slice A bs.length c) ((wo : Nat) : Int)) := (B3.set_ 7 (.int .i64 ((wo : Nat) : Int))).drew
    have O4 := own_kept O3 (S := (· = p)) (((keep1 p w3).setCell ⟨p, 7, none⟩ (.inl rfl) (.int .i64 ((wo : Nat) : Int))).drew) (fun g _ _ hg e => hnp (by rw [← e]; exact hg))
    have K4 := (K3.setCell ⟨p, 7, none⟩ (.inl (.inl rfl)) (.int .i64 ((wo : Nat) : Int))).drew
    go_wp2_with fail
    clear d7 f3 B3 O3 K3
    generalize (w3.setCell ⟨p, 7, none⟩ (.int .i64 ((wo : Nat) : Int))).drew = w4 at *
    have e0 : w4.cell? ⟨p, 0, none⟩ = some (.int .i64 (m : Int)) := B4.cellAt (i := 0) rfl
    have Y4 := Lib.hid (fun n => quiet_eq (n := n) (w := w4) (by have h := yes_w (xs ++ [y]) h2 (B4.drewN n); rw [← HW.out] at h; exact h))
    have hgi : (Wn : Int) < (m : Int) := by have := HG.out; omega
    go_quiet ((go_at_call 83; exact Y4.out _))
    go_wp2_with fail
    have B5 := B4.drewN nq
    have O5 := own_kept O4 (S := fun _ => False) ((Keeps.refl _ w4).drewN nq) (fun _ _ _ _ h => h)
    have K5 := K4.drewN nq
    clear e0 Y4 B4 O4 K4
    generalize w4.drewN nq = w5 at *
    have d5 : w5.cell? ⟨p, 5, none⟩ = some (.int .i64 ((xs.length : Int) + 1)) := B5.cellAt (i := 5) rfl
    have d6 : w5.cell? ⟨p, 6, none⟩ = some (.slice A bs.length c) := B5.cellAt (i := 6) rfl
    have d6a : (w5.alloc (.cells #[.int .i64 (xs.length : Int)] 3)).cell? ⟨p, 6, none⟩ = some (.slice A bs.length c) := (B5.alloc (.cells #[.int .i64 (xs.length : Int)] 3)).cellAt (i := 6) rfl
    have z5 := K5.size
    have b1 : bs.length + 1 ≤ maxLen := by unfold maxLen; omega
    have b2 : (bs.length + 1) * 8 ≤ 140737488355328 := by omega
    have b3 : 1 ≤ maxLen := by unfold maxLen; omega
    have hw : IntKind.i64.wrap (xs.length : Int) = (xs.length : Int) := IntWalk.i64_in _ (by omega)
    go_region_law (refine step_append_has rfl (.tmp 51) (.tmp 57) 58 rfl i0 _ 8 Try.underlying58 hi0 hz0 hz1 hz2 rfl (by decide) (by simp [Act.eval, Act.put]) (own_kept O5 ((Keeps.refl (fun _ => False) w5).alloc _) (fun _ _ _ _ h => h)).drew (some ⟨w5.heap.size, 0, none⟩) 1 1 [.int .i64 (xs.length : Int)] (by simp [Act.eval, Act.put]) (by have := Has.box w5 3 1 1 [.int .i64 (xs.length : Int)] rfl b3; exact this) (ints_one .i64 [(xs.length : Int)]) b1 b2 (Nat.zero_le _) ?_; intro v7 w7 own7 g7 at7; obtain ⟨A7, c7, hv7⟩ := own_shape own7; subst hv7; have G7 : (w5.alloc (.cells #[.int .i64 (xs.length : Int)] 3)).grownBy w7 (Value.slice A bs.length c).ownBlock := ⟨g7.os, g7.tape, g7.output, g7.size, g7.block⟩; have B7 := (B5.alloc (.cells #[.int .i64 (xs.length : Int)] 3)).grown G7 hnp; have b6 := B7.cellAt (i := 6) rfl; have fp := B7.frozen; have K7 : Keeps (Foot p A) w w7 := keeps_grown (K5.alloc _) G7 (fun g hg => .inl (.inr ((own_same A _ _ _ _).trans hg))); have z7 : (Value.slice A7 (bs.length + 1) c7).ownBlock = (Value.slice A bs.length c).ownBlock ∨ (Value.slice A7 (bs.length + 1) c7).ownBlock = some (w5.heap.size + 1) := (by have e : ((w5.alloc (.cells #[.int .i64 (xs.length : Int)] 3)).drew).heap.size = w5.heap.size + 1 := (by simp); rw [← e]; exact at7); have n7 := own_type_ne own7 B7 (by decide); clear g7 at7 G7)
    all_goals
      clear hw
      go_wp2_with fail
      go_ret
      have hl7 : (bs ++ [xs.length]).length = bs.length + 1 := by simp
      have hn7 : nums (bs ++ [xs.length]) = nums bs ++ [.int .i64 (xs.length : Int)] := by simp [nums]
      refine ⟨rfl, ⟨A7, c7, ⟨?_, ?_⟩, ?_⟩, K7.setCell _ (.inl (.inl rfl)) _⟩
      · unfold cs
        rw [wst_snoc, if_pos hs, ← HW.out, ← HO.out, HM.out, hl7]
        have := B7.set_ 6 (.slice A7 (bs.length + 1) c7)
        simpa [Ring.mon] using this
      · rw [hl7, hn7]
        exact own_kept own7 (S := (· = p)) ((keep1 p w7).setCell ⟨p, 6, none⟩ (.inl rfl) (.slice A7 (bs.length + 1) c7)) (fun g _ _ hg e => n7 (by rw [← e]; exact hg))
      · rintro b (rfl | hb)
        · exact .inl (.inl rfl)
        · rw [own_same _ 0 0 (bs.length + 1) c7] at hb
          rcases z7 with z | z
          · exact .inl (.inr (by rw [own_same A 0 0 bs.length c, ← z]; exact hb))
          · rw [z] at hb
            injection hb with hb
            exact .inr (by omega)
end Mon
end Go.Proofs.Ytpfhogbkbodfjab
