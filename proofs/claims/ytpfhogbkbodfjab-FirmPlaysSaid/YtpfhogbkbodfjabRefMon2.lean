/- The reference's Monitor of the call's own: Add, Worst, Broken; conditions: 1 ≤ k, at most 400 were told. -/
import Derived.Test.YtpfhogbkbodfjabRefMon
namespace Go.Proofs.Ytpfhogbkbodfjab
open Go.RowKit
set_option linter.unusedVariables false
set_option linter.unusedSimpArgs false
namespace RefMon
open Win
def Is (w : World) (q : Nat) (F : Nat → Prop) (m k : Nat) (xs : List Bool) : Prop := ∃ A c, At w q A c m k xs ∧ F = Foot q A
section
variable {w w' : World} {q m k : Nat} {F S : Nat → Prop} {xs : List Bool}
theorem Is.kept (h : Is w q F m k xs) (kp : Keeps S w w') (hS : ∀ b, F b → ¬ S b) : Is w' q F m k xs := by
  obtain ⟨A, c, ha, rfl⟩ := h
  exact ⟨A, c, ha.kept kp hS, rfl⟩
theorem Is.stay (h : Is w q F m k xs) (kp : Keeps (fun _ => False) w w') : Is w' q F m k xs := h.kept kp fun _ _ h => h
theorem Is.lt (h : Is w q F m k xs) : ∀ b, F b → b < w.heap.size := by
  obtain ⟨A, c, ha, rfl⟩ := h
  exact ha.lt
end
theorem is_new (w : World) (m k : Nat) : Is (w.alloc (.cells #[.int .i64 (m : Int), .int .i64 (k : Int), .slice none 0 0] 110)) w.heap.size (Foot w.heap.size none) m k [] :=
  ⟨none, 0, ⟨Blk.new w _ [_, _, _], Has.nil _ _ _⟩, rfl⟩
theorem add_is {q m k : Nat} {F : Nat → Prop} {xs : List Bool} {w : World} (y : Bool) (h : Is w q F m k xs) (h1 : 1 ≤ k) (h2 : k ≤ 64) (hl : xs.length ≤ 300) :
    Calls Try.prog 69 #[.pointer (some ⟨q, 0, none⟩), .bool y] w fun e w' => e = .returned (.bool (!bad m k (xs ++ [y]))) ∧ (∃ F', Is w' q F' m k (xs ++ [y]) ∧ ∀ b, F' b → F b ∨ w.heap.size ≤ b) ∧ Keeps F w w' := by
  obtain ⟨A, c, ha, rfl⟩ := h
  have key : ∀ (e : Ending) (w' : World), (e = .returned (.bool (!bad m k (xs ++ [y]))) ∧ Added w q m k (xs ++ [y]) w' ∧ Keeps (· = q) w w') → (e = .returned (.bool (!bad m k (xs ++ [y]))) ∧ (∃ F', Is w' q F' m k (xs ++ [y]) ∧ ∀ b, F' b → Foot q A b ∨ w.heap.size ≤ b) ∧ Keeps (Foot q A) w w') := by
    rintro e w' ⟨he, ⟨A', c', ha', hf⟩, kp⟩
    refine ⟨he, ⟨_, ⟨A', c', ha', rfl⟩, ?_⟩, kp.mono (fun _ _ h => .inl h)⟩
    rintro b (rfl | hb)
    · exact .inl (.inl rfl)
    · exact .inr (hf b hb)
  by_cases hs : xs.length + 1 < k
  · have hb : bad m k (xs ++ [y]) = false := by unfold bad; simp; omega
    rw [hb] at key ⊢
    exact (add_short q A c m k xs y w ha (by omega) hs (by omega)).mono key
  · exact (add_long q A c m k xs y w ha (by omega) h1 (by omega)).mono key
section
variable {q m k : Nat} {F : Nat → Prop} {xs : List Bool} {w : World}
set_option maxHeartbeats 1000000 in
theorem worst_no (h : Is w q F m k xs) (hl : xs.length < k) (h2 : k ≤ 64) :
    Calls Try.prog 70 #[.pointer (some ⟨q, 0, none⟩)] w fun e w' => e = .returned (.tuple #[.int .i64 0, .bool false]) ∧ Drawn w w' := by
  obtain ⟨A, c, ha, rfl⟩ := h
  have c1 := ha.Bl.cellAt (i := 1) rfl
  have c2 := ha.Bl.cellAt (i := 2) rfl
  have hl' : (xs.length : Int) < (k : Int) := by omega
  have D := Drawn.refl w
  clear ha
  go_enter Try.func70, Try.ntmps70
  go_wp2_with fail
  go_quiet (fail)
  go_wp2_with fail
  go_ret2
  exact ⟨rfl, D.drewN _⟩
set_option maxHeartbeats 2000000 in
theorem worst_yes (h : Is w q F m k xs) (h1 : 1 ≤ k) (hl : k ≤ xs.length) (hx : xs.length ≤ 400) :
    Calls Try.prog 70 #[.pointer (some ⟨q, 0, none⟩)] w fun e w' => e = .returned (.tuple #[.int .i64 ((wst k xs : Nat) : Int), .bool true]) ∧ Drawn w w' := by
  obtain ⟨A, c, ha, rfl⟩ := h
  have c1 := ha.Bl.cellAt (i := 1) rfl
  have c2 := ha.Bl.cellAt (i := 2) rfl
  have hl' : ¬ (xs.length : Int) < (k : Int) := by omega
  have D := Drawn.refl w
  have HA := fun n => ha.stay ((Keeps.refl (fun _ => False) w).drewN n)
  have hk0 : (1 : Int) ≤ (k : Int) := by omega
  have hk1 : (k : Int) ≤ 400 := by omega
  obtain ⟨n, hn⟩ : ∃ n, n = xs.length := ⟨_, rfl⟩
  rw [← hn] at c2 hl hl' hx
  have HN := Lib.hid hn
  have HA := Lib.hid HA
  have hlb : decide ((n : Int) < (k : Int)) = false := by simpa using hl'
  have hlb2 : decide (n < k) = false := by simpa using hl
  clear ha hn
  go_enter Try.func70, Try.ntmps70
  go_wp2_with fail
  go_quiet (fail)
  have H1 := HA.out nq
  have D1 := D.drewN nq
  clear D
  go_wp2_with fail
  generalize w.drewN nq = w1 at *
  have e1 := H1.Bl.cellAt (i := 1) rfl
  have e2 := H1.Bl.cellAt (i := 2) rfl
  rw [← HN.out] at e2
  clear c1 c2 HA
  go_loop [4, 5] (fun t i => ∃ j : Nat, k ≤ j + 1 ∧ j ≤ n ∧ i = .int .i64 (j : Int) ∧ t = .int .i64 ((wstN k xs j : Nat) : Int)) (fun _ i => n - (intOf i).toNat)
  case atStart => exact ⟨k - 1, by omega, by omega, by congr 1; omega, by rw [wstN_short k xs _ (by omega)]⟩
  case round =>
    obtain ⟨j, hj0, hj, rfl, rfl⟩ := hrel
    have hwl := wstN_le k xs j
    by_cases hlt : j < n
    · have M1 := met_any q A c m k xs j w1 H1 (by rw [← HN.out]; exact hlt) h1 hj0 (by rw [← HN.out]; exact hx)
      have hs : wstN k xs (j + 1) = min (wstN k xs j) (W k (xs.take (j + 1))) := by simp only [wstN]; rw [if_pos hj0]
      obtain ⟨Wn, hWn⟩ : ∃ v : Nat, v = W k (xs.take (j + 1)) := ⟨_, rfl⟩
      rw [← hWn] at M1 hs
      obtain ⟨wo, hwo⟩ : ∃ v : Nat, v = wstN k xs j := ⟨_, rfl⟩
      rw [← hwo] at hs hwl ⊢
      have HS := Lib.hid hs
      have HM := Lib.hid M1
      clear hWn hwo M1 hs
      by_cases hc : (Wn : Int) < (wo : Int)
      · go_wp2_with fail
        refine HM.out.mono ?_
        rintro e w2 ⟨rfl, rfl⟩
        go_wp2_with fail
        refine HM.out.mono ?_
        rintro e w2 ⟨rfl, rfl⟩
        go_wp2_with fail
        go_round
        case rel => exact ⟨j + 1, by omega, by omega, by go_num, by rw [HS.out]; congr 1; omega⟩
        case measure => simp [intOf]; omega
      · go_wp2_with fail
        refine HM.out.mono ?_
        rintro e w2 ⟨rfl, rfl⟩
        go_wp2_with fail
        go_round
        case rel => exact ⟨j + 1, by omega, by omega, by go_num, by rw [HS.out]; congr 1; omega⟩
        case measure => simp [intOf]; omega
    · obtain rfl : j = n := by omega
      go_wp2_with fail
      go_ret2
      exact ⟨by unfold wst; rw [← HN.out]; rfl, D1⟩
/-- What holds at each round of Broken. -/
def BrInv (w : World) (q : Nat) (A : Option Addr) (c m k n : Nat) (xs : List Bool) (v i : Value) (wr : World) : Prop :=
  ∃ j : Nat, k ≤ j + 1 ∧ (j ≤ n ∨ j + 1 = k) ∧ i = .int .i64 (j : Int) ∧ wr.ownsRow w.heap.size 3 1 v (brkN m k xs j).length (Mon.nums (brkN m k xs j)) ∧ At wr q A c m k xs ∧ Keeps (fun _ => False) w wr
set_option maxRecDepth 100000 in
set_option maxHeartbeats 4000000 in
theorem broken_is (h : Is w q F m k xs) (h1 : 1 ≤ k) (h2 : k ≤ 64) (hx : xs.length ≤ 400) :
    Calls Try.prog 73 #[.pointer (some ⟨q, 0, none⟩)] w fun e w' => ∃ A' c', e = .returned (.slice A' (brk m k xs).length c') ∧ Has w' 3 1 (.slice A' (brk m k xs).length c') (brk m k xs).length (Mon.nums (brk m k xs)) ∧ Keeps (fun _ => False) w w' := by
  obtain ⟨i0, hi0, hz0, hz1, hz2⟩ := info_parts Mon.infoI
  obtain ⟨A, c, ha, rfl⟩ := h
  have c1 := ha.Bl.cellAt (i := 1) rfl
  have hk0 : (1 : Int) ≤ (k : Int) := by omega
  have hk1 : (k : Int) ≤ 64 := by omega
  obtain ⟨n, hn⟩ : ∃ n, n = xs.length := ⟨_, rfl⟩
  have K0 := Keeps.refl (fun _ => False) w
  obtain ⟨bl, hbl⟩ : ∃ bl, bl = brk m k xs := ⟨_, rfl⟩
  rw [← hbl]
  have HB : Hid (bl = brkN m k xs n) := Lib.hid (by rw [hbl, hn]; rfl)
  rw [← hn] at hx
  have HN := Lib.hid hn
  clear hn hbl
  go_enter Try.func73, Try.ntmps73
  go_wp2_with fail
  go_loopw [3, 4] (fun v i wr => BrInv w q A c m k n xs v i wr) (fun _ i _ => n - (intOf i).toNat)
  case atStart => exact ⟨k - 1, by omega, .inr (by omega), by congr 1; omega, by rw [brkN_short m k xs _ (by omega)]; exact World.ownsRow_nil _ _ _ _, ha, K0⟩
  case round =>
    clear ha K0 c1
    obtain ⟨j, hj0, hj, rfl, O, H, K⟩ := hrel
    have e0 := H.Bl.cellAt (i := 0) rfl
    have e2 := H.Bl.cellAt (i := 2) rfl
    rw [← HN.out] at e2
    have hbn := brkN_len m k xs j
    obtain ⟨b0, hb0⟩ : ∃ b0, b0 = brkN m k xs j := ⟨_, rfl⟩
    rw [← hb0] at O hbn
    have HB0 := Lib.hid hb0
    clear hb0
    obtain ⟨SA, sc, hv⟩ := own_shape O
    subst hv
    by_cases hlt : j < n
    · have ym := fun t => quiet_eq (n := t) (w := wr) (met_any q A c m k xs j (wr.drewN t) (H.stay ((Keeps.refl _ _).drewN t)) (by rw [← HN.out]; exact hlt) h1 hj0 (by rw [← HN.out]; exact hx))
      obtain ⟨Wn, hWn⟩ : ∃ v : Nat, v = W k (xs.take (j + 1)) := ⟨_, rfl⟩
      rw [← hWn] at ym
      have YM := Lib.hid ym
      have hs : brkN m k xs (j + 1) = brkN m k xs j ++ if Wn < m then [j] else [] := by simp only [brkN]; rw [← hWn]; simp [hj0]
      rw [← HB0.out] at hs
      have HS := Lib.hid hs
      clear hs ym hWn
      by_cases hc : (Wn : Int) < (m : Int)
      · have HS2 : Hid (brkN m k xs (j + 1) = b0 ++ [j]) := Lib.hid (by rw [HS.out, if_pos (by omega)])
        clear HS
        go_wp2_with fail
        go_quiet ((go_at_call 85; exact YM.out _))
        have k1 : Keeps (fun _ => False) wr (wr.drewN nq) := (Keeps.refl _ _).drewN nq
        have O1 := own_kept O k1 (fun _ _ _ _ h => h)
        have H1 := H.stay k1
        have K1 := K.trans k1 (fun _ _ h => h)
        clear O H K k1 YM e0 e2
        generalize wr.drewN nq = w1 at *
        have z1 := K1.size
        go_wp2_with (at_builtin; refine wpList_append_has rfl (.tmp 27) (.tmp 29) 58 rfl i0 _ 8 Try.underlying58 hi0 hz0 hz1 hz2 rfl (by omega) rfl (own_kept O1 ((Keeps.refl (fun _ => False) w1).alloc _) (fun _ _ _ _ h => h)) (some ⟨w1.heap.size, 0, none⟩) 1 1 [.int .i64 (j : Int)] rfl (Has.box w1 3 1 1 [.int .i64 (j : Int)] rfl (by unfold maxLen; omega)) (ints_one .i64 [(j : Int)]) (by unfold maxLen; omega) (by omega) (by simp; omega) ?_; intro v5 w5 own5 g5 at5)
        have k5 : Keeps (fun g => (Value.slice SA b0.length sc).ownBlock = some g) w1 w5 := keeps_grown ((Keeps.refl _ _).alloc _) g5 (fun g h => .inl h)
        have K5 : Keeps (fun _ => False) w w5 := keeps_grown (K1.alloc _) g5 (fun g h => .inr (O1.lt g h).1)
        have H5 := H1.kept k5 (fun b hb hg => by
          rcases hb with rfl | hb
          · exact own_type_ne O1 H1.Bl (by decide) hg
          · rw [own_same A 0 0 xs.length c] at hb
            rcases O1.2 with ⟨h0, _⟩ | ⟨g, _, _, hv, _, hh, _⟩
            · rw [h0] at hg; cases hg
            · rw [hv] at hg
              cases hg
              rcases H1.L.2 with ⟨h0, _⟩ | ⟨g', _, _, _, hv', _, _, hh', _⟩
              · rw [h0] at hb; cases hb
              · rw [hv'] at hb
                cases hb
                rw [hh] at hh'
                injection hh' with hh'
                injection hh' with _ ht
                exact absurd ht (by decide))
        clear O1 H1 K1 k5 g5 at5
        go_wp2_with fail
        go_roundw
        case rel => exact ⟨j + 1, by omega, .inl (by omega), by go_num, by rw [HS2.out]; simpa [Mon.nums] using own5, H5, K5⟩
        case measure => simp [intOf]; omega
      · have HS2 : Hid (brkN m k xs (j + 1) = b0) := Lib.hid (by rw [HS.out, if_neg (by omega), List.append_nil])
        clear HS
        go_wp2_with fail
        go_quiet ((go_at_call 85; exact YM.out _))
        have k1 : Keeps (fun _ => False) wr (wr.drewN nq) := (Keeps.refl _ _).drewN nq
        have O1 := own_kept O k1 (fun _ _ _ _ h => h)
        have H1 := H.stay k1
        have K1 := K.trans k1 (fun _ _ h => h)
        clear O H K k1 YM e0 e2
        generalize wr.drewN nq = w1 at *
        go_wp2_with fail
        go_roundw
        case rel => exact ⟨j + 1, by omega, .inl (by omega), by go_num, by rw [HS2.out]; exact O1, H1, K1⟩
        case measure => simp [intOf]; omega
    · have e : b0 = bl := by
        rw [HB0.out]
        rcases hj with hj | hj
        · rw [show j = n by omega]; exact HB.out.symm
        · rw [HB.out, brkN_short m k xs _ (by omega), brkN_short m k xs _ (by omega)]
      subst e
      have HH := Has.of_own O
      clear O e0 H
      go_wp2_with fail
      go_ret
      exact ⟨SA, sc, rfl, HH, K⟩
end
end RefMon
end Go.Proofs.Ytpfhogbkbodfjab
