/- A Monitor of the call's own: what Add, Broken, Worst, May answer; conditions: 1 ≤ k ≤ 64, m ≤ k, at most 300 were told. -/
import Derived.Test.YtpfhogbkbodfjabFirmAdd
namespace Go.Proofs.Ytpfhogbkbodfjab
open Go.RowKit
set_option linter.unusedVariables false
set_option linter.unusedSimpArgs false
namespace Mon
open Win
/-- A Monitor at block p, holding the blocks F. -/
def Is (w : World) (p : Nat) (F : Nat → Prop) (m k : Nat) (xs : List Bool) (bs : List Nat) : Prop := ∃ A c, At w p A c m k xs bs ∧ F = Foot p A
section
variable {w w' : World} {p m k : Nat} {F S : Nat → Prop} {xs : List Bool} {bs : List Nat}
theorem Is.kept (h : Is w p F m k xs bs) (kp : Keeps S w w') (hS : ∀ b, F b → ¬ S b) : Is w' p F m k xs bs := by
  obtain ⟨A, c, ha, rfl⟩ := h
  exact ⟨A, c, ha.kept kp hS, rfl⟩
theorem Is.stay (h : Is w p F m k xs bs) (kp : Keeps (fun _ => False) w w') : Is w' p F m k xs bs := h.kept kp fun _ _ h => h
theorem Is.lt (h : Is w p F m k xs bs) : ∀ b, F b → b < w.heap.size := by
  obtain ⟨A, c, ha, rfl⟩ := h
  exact ha.lt
theorem Is.drewN (h : Is w p F m k xs bs) (n : Nat) : Is (w.drewN n) p F m k xs bs := h.stay ((Keeps.refl _ w).drewN n)
end
theorem new_is (m k : Nat) (w : World) (h1 : 1 ≤ k) (h2 : k ≤ 64) (hm : m ≤ k) :
    Calls Try.prog 64 #[.int .i64 (m : Int), .int .i64 (k : Int)] w fun e w' => ∃ p F, e = .returned (.tuple #[.pointer (some ⟨p, 0, none⟩), .int .i64 0]) ∧ Is w' p F m k [] [] ∧ (∀ b, F b → w.heap.size ≤ b) ∧ Keeps (fun _ => False) w w' :=
  (new_any m k w h1 h2 hm).mono fun e w' ⟨p, he, hp, ha, kp⟩ => ⟨p, Foot p none, he, ⟨none, 0, ha, rfl⟩, (fun b hb => by
    rcases hb with rfl | hb
    · exact hp
    · cases hb), kp⟩
/-- What is told of the next one. -/
def ok (m k : Nat) (xs : List Bool) (y : Bool) : Bool := !bad m k (xs ++ [y])
theorem add_is {p m k : Nat} {F : Nat → Prop} {xs : List Bool} {bs : List Nat} {w : World} (y : Bool) (h : Is w p F m k xs bs) (h1 : 1 ≤ k) (h2 : k ≤ 64) (hm : m ≤ k) (hl : xs.length ≤ 300) (hbl : bs.length ≤ 300) :
    Calls Try.prog 65 #[.pointer (some ⟨p, 0, none⟩), .bool y] w fun e w' => e = .returned (.bool (!bad m k (xs ++ [y]))) ∧ (∃ F', Is w' p F' m k (xs ++ [y]) (bs ++ if bad m k (xs ++ [y]) = true then [xs.length] else []) ∧ ∀ b, F' b → F b ∨ w.heap.size ≤ b) ∧ Keeps F w w' := by
  obtain ⟨A, c, ha, rfl⟩ := h
  by_cases hs : xs.length + 1 < k
  · have hb : bad m k (xs ++ [y]) = false := by unfold bad; simp; omega
    rw [hb]
    refine (add_short p A c m k xs bs y w ha h1 h2 hm (by omega) hs).mono ?_
    rintro e w' ⟨he, ha', kp⟩
    exact ⟨he, ⟨_, ⟨A, c, by simpa using ha', rfl⟩, fun b hb => .inl hb⟩, kp⟩
  · by_cases hg : m ≤ W k (xs ++ [y])
    · have hb : bad m k (xs ++ [y]) = false := by unfold bad; simp; omega
      rw [hb]
      refine (add_good p A c m k xs bs y w ha h1 h2 hm (by omega) (by omega) hg).mono ?_
      rintro e w' ⟨he, ha', kp⟩
      exact ⟨he, ⟨_, ⟨A, c, by simpa using ha', rfl⟩, fun b hb => .inl hb⟩, kp⟩
    · have hb : bad m k (xs ++ [y]) = true := by unfold bad; simp; omega
      rw [hb]
      refine (add_bad p A c m k xs bs y w ha h1 h2 hm (by omega) (by omega) (by omega) (by omega)).mono ?_
      rintro e w' ⟨he, ⟨A', c', ha', hf⟩, kp⟩
      exact ⟨he, ⟨_, ⟨A', c', by simpa using ha', rfl⟩, hf⟩, kp⟩
set_option maxHeartbeats 1000000 in
theorem clone_any (A : Option Addr) (c : Nat) (bs : List Nat) (w : World) (hl : bs.length ≤ 1000) (h : Has w 3 1 (.slice A bs.length c) bs.length (nums bs)) :
    Calls Try.prog 84 #[.slice A bs.length c] w fun e w' => ∃ A' c', e = .returned (.slice A' bs.length c') ∧ Has w' 3 1 (.slice A' bs.length c') bs.length (nums bs) ∧ Keeps (fun _ => False) w w' := by
  obtain ⟨i0, hi0, hz0, hz1, hz2⟩ := info_parts infoI
  have hnil := fun (W : World) (a : Option Addr) (n c n' c' : Nat) => Lib.run_eql_slice_nil (P := Try.prog) W 58 3 a n c n' c' Try.underlying58
  have K := Keeps.refl (fun _ => False) w
  rcases h.2 with ⟨hv, h0⟩ | ⟨g, off, cap, cur, hv, _⟩
  · injection hv with hA hn hc
    subst hA hc
    rw [h0] at h
    have hx : bs = [] := List.eq_nil_of_length_eq_zero h0
    subst hx
    clear h0 hn
    go_enter Try.func84, Try.ntmps84
    go_wp2_with fail
    go_ret
    exact ⟨none, 0, rfl, h, K⟩
  · injection hv with hA hn hc
    subst hA hc
    clear hn
    go_enter Try.func84, Try.ntmps84
    go_wp2_with (at_builtin; refine wpList_append_has rfl (.tmp 5) (.tmp 6) 58 rfl i0 _ 8 Try.underlying58 hi0 hz0 hz1 hz2 rfl (by omega) rfl (own_empty w w.heap.size 3 1 (Nat.le_refl _)) (some ⟨g, off, none⟩) bs.length c (nums bs) rfl (h.kept ((Keeps.refl (fun _ => False) _).alloc _) (fun _ _ _ _ h => h)) (nums_one _) (by unfold maxLen; omega) (by omega) (by simp) ?_; intro v1 w1 own1 g1 at1)
    have K1 : Keeps (fun _ => False) w w1 := keeps_grown ((Keeps.refl _ _).alloc _) g1 (fun g h => .inr (Nat.le_of_eq (slice_block h)))
    simp only [Nat.zero_add, List.nil_append] at own1
    obtain ⟨A2, c2, hv2⟩ := own_shape own1
    subst hv2
    have HH := Has.of_own own1
    clear own1 g1 at1
    go_wp2_with fail
    go_ret
    exact ⟨A2, c2, rfl, HH, K1⟩
section
variable {p m k : Nat} {F : Nat → Prop} {xs : List Bool} {bs : List Nat} {w : World}
theorem broken_is (h : Is w p F m k xs bs) (hl : bs.length ≤ 1000) :
    Calls Try.prog 66 #[.pointer (some ⟨p, 0, none⟩)] w fun e w' => ∃ A' c', e = .returned (.slice A' bs.length c') ∧ Has w' 3 1 (.slice A' bs.length c') bs.length (nums bs) ∧ Keeps (fun _ => False) w w' := by
  obtain ⟨A, c, ha, rfl⟩ := h
  have c6 := ha.Bl.cellAt (i := 6) rfl
  have hh := Has.of_own ha.B
  clear ha
  go_enter Try.func66, Try.ntmps66
  go_wp2_with fail
  refine (clone_any A c bs _ hl hh).mono ?_
  rintro e w1 ⟨A', c', rfl, H1, k1⟩
  go_wp2_with fail
  go_ret
  exact ⟨A', c', rfl, H1, k1⟩
theorem worst_no (h : Is w p F m k xs bs) (hl : xs.length < k) (h2 : k ≤ 64) :
    Calls Try.prog 67 #[.pointer (some ⟨p, 0, none⟩)] w fun e w' => e = .returned (.tuple #[.int .i64 0, .bool false]) ∧ Drawn w w' := by
  obtain ⟨A, c, ha, rfl⟩ := h
  have c1 := ha.Bl.cellAt (i := 1) rfl
  have c5 := ha.Bl.cellAt (i := 5) rfl
  have hl' : (xs.length : Int) < (k : Int) := by omega
  have D := Drawn.refl w
  clear ha
  go_enter Try.func67, Try.ntmps67
  go_wp2_with fail
  go_quiet (fail)
  go_wp2_with fail
  go_ret2
  exact ⟨rfl, D.drewN _⟩
theorem worst_yes (h : Is w p F m k xs bs) (hl : k ≤ xs.length) (hx : xs.length ≤ 1000) :
    Calls Try.prog 67 #[.pointer (some ⟨p, 0, none⟩)] w fun e w' => e = .returned (.tuple #[.int .i64 ((wst k xs : Nat) : Int), .bool true]) ∧ Drawn w w' := by
  obtain ⟨A, c, ha, rfl⟩ := h
  have c1 := ha.Bl.cellAt (i := 1) rfl
  have c5 := ha.Bl.cellAt (i := 5) rfl
  have c7 := ha.Bl.cellAt (i := 7) rfl
  have hl' : ¬ (xs.length : Int) < (k : Int) := by omega
  have D := Drawn.refl w
  clear ha
  go_enter Try.func67, Try.ntmps67
  go_wp2_with fail
  go_quiet (fail)
  go_wp2_with fail
  go_ret2
  exact ⟨rfl, D.drewN _⟩
end
/-- What holds at each round of May. -/
def MayInv (w : World) (p : Nat) (F : Nat → Prop) (m k : Nat) (xs : List Bool) (bs : List Nat) (N : Nat) (wr : World) (o i : Value) : Prop :=
  ∃ (j : Nat) (ds : List Nat) (F1 : Nat → Prop), j ≤ N ∧ o = .bool (may m k xs j) ∧ i = .int .i64 (j : Int) ∧ Is wr w.heap.size F1 m k (xs ++ List.replicate j false) ds ∧ ds.length ≤ j ∧ (∀ b, F1 b → w.heap.size ≤ b) ∧ Below w.heap.size w wr
set_option maxHeartbeats 2000000 in
theorem may_neg (p : Nat) (F : Nat → Prop) (m k : Nat) (xs : List Bool) (bs : List Nat) (n : Int) (w : World) (h : Is w p F m k xs bs) (h1 : 1 ≤ k) (h2 : k ≤ 64) (hm : m ≤ k) (hl : xs.length ≤ 190) (ha : n < 0) :
    Calls Try.prog 68 #[.pointer (some ⟨p, 0, none⟩), .int .i64 n] w fun e w' => e = .returned (.bool (may m k xs 0)) ∧ Keeps (fun _ => False) w w' := by
  obtain ⟨A, c, ha, _⟩ := h
  have c0 := ha.Bl.cellAt (i := 0) rfl
  have c1 := ha.Bl.cellAt (i := 1) rfl
  have c2 := ha.Bl.cellAt (i := 2) rfl
  have c3 := ha.Bl.cellAt (i := 3) rfl
  have c4 := ha.Bl.cellAt (i := 4) rfl
  have c5 := ha.Bl.cellAt (i := 5) rfl
  have c6 := ha.Bl.cellAt (i := 6) rfl
  have c7 := ha.Bl.cellAt (i := 7) rfl
  obtain ⟨bb, hbb⟩ : ∃ b : Nat, b = val xs % 2 ^ k := ⟨_, rfl⟩
  have hcs : cs m k xs (.slice none 0 0) = [.int .i64 (m : Int), .int .i64 (k : Int), .int .i64 (k : Int), .int .i64 ((min xs.length k : Nat) : Int), .int .u64 (bb : Int), .int .i64 (xs.length : Int), .slice none 0 0, .int .i64 ((wst k xs : Nat) : Int)] := by rw [hbb]; rfl
  replace c4 : w.cell? ⟨p, 4, none⟩ = some (.int .u64 (bb : Int)) := by rw [hbb]; exact c4
  have Q0 : Is (w.alloc (.cells (cs m k xs (.slice none 0 0)).toArray 144)) w.heap.size (Foot w.heap.size none) m k xs [] := ⟨none, 0, ⟨Blk.new w _ _, World.ownsRow_nil _ _ _ _⟩, rfl⟩
  have HF0 : ∀ b, Foot w.heap.size none b → w.heap.size ≤ b := by
    rintro b (rfl | hb)
    · exact Nat.le_refl _
    · cases hb
  have B0 : Below w.heap.size w (w.alloc (.cells (cs m k xs (.slice none 0 0)).toArray 144)) := (Below.refl _ _).alloc (Nat.le_refl _) _
  rw [hcs] at Q0 B0
  clear ha hcs hbb
  go_enter Try.func68, Try.ntmps68
  go_wp2_with fail
  all_goals
    go_loopw [6, 14] (fun o i wr => MayInv w p F m k xs bs 0 wr o i) (fun _ i _ => 0 - (intOf i).toNat)
    case atStart => exact ⟨0, [], _, by omega, rfl, rfl, by simpa using Q0, by simp, HF0, B0⟩
    case round =>
      clear Q0 HF0 B0
      obtain ⟨j, ds, F1, hj, rfl, rfl, Q, hds, HF, B⟩ := hrel
      obtain rfl : j = 0 := by omega
      go_wp2_with fail
      go_ret
      exact ⟨rfl, Keeps.of_below B⟩
set_option maxHeartbeats 2000000 in
theorem may_big (p : Nat) (F : Nat → Prop) (m k : Nat) (xs : List Bool) (bs : List Nat) (n : Int) (w : World) (h : Is w p F m k xs bs) (h1 : 1 ≤ k) (h2 : k ≤ 64) (hm : m ≤ k) (hl : xs.length ≤ 190) (hb : 100 < n) :
    Calls Try.prog 68 #[.pointer (some ⟨p, 0, none⟩), .int .i64 n] w fun e w' => e = .returned (.bool (may m k xs 100)) ∧ Keeps (fun _ => False) w w' := by
  obtain ⟨A, c, ha, _⟩ := h
  have c0 := ha.Bl.cellAt (i := 0) rfl
  have c1 := ha.Bl.cellAt (i := 1) rfl
  have c2 := ha.Bl.cellAt (i := 2) rfl
  have c3 := ha.Bl.cellAt (i := 3) rfl
  have c4 := ha.Bl.cellAt (i := 4) rfl
  have c5 := ha.Bl.cellAt (i := 5) rfl
  have c6 := ha.Bl.cellAt (i := 6) rfl
  have c7 := ha.Bl.cellAt (i := 7) rfl
  obtain ⟨bb, hbb⟩ : ∃ b : Nat, b = val xs % 2 ^ k := ⟨_, rfl⟩
  have hcs : cs m k xs (.slice none 0 0) = [.int .i64 (m : Int), .int .i64 (k : Int), .int .i64 (k : Int), .int .i64 ((min xs.length k : Nat) : Int), .int .u64 (bb : Int), .int .i64 (xs.length : Int), .slice none 0 0, .int .i64 ((wst k xs : Nat) : Int)] := by rw [hbb]; rfl
  replace c4 : w.cell? ⟨p, 4, none⟩ = some (.int .u64 (bb : Int)) := by rw [hbb]; exact c4
  have Q0 : Is (w.alloc (.cells (cs m k xs (.slice none 0 0)).toArray 144)) w.heap.size (Foot w.heap.size none) m k xs [] := ⟨none, 0, ⟨Blk.new w _ _, World.ownsRow_nil _ _ _ _⟩, rfl⟩
  have HF0 : ∀ b, Foot w.heap.size none b → w.heap.size ≤ b := by
    rintro b (rfl | hb)
    · exact Nat.le_refl _
    · cases hb
  have B0 : Below w.heap.size w (w.alloc (.cells (cs m k xs (.slice none 0 0)).toArray 144)) := (Below.refl _ _).alloc (Nat.le_refl _) _
  rw [hcs] at Q0 B0
  clear ha hcs hbb
  have ha : ¬ n < 0 := by omega
  go_enter Try.func68, Try.ntmps68
  go_wp2_with fail
  all_goals
    go_loopw [6, 14] (fun o i wr => MayInv w p F m k xs bs 100 wr o i) (fun _ i _ => 100 - (intOf i).toNat)
    case atStart => exact ⟨0, [], _, by omega, rfl, rfl, by simpa using Q0, by simp, HF0, B0⟩
    case round =>
      clear Q0 HF0 B0
      obtain ⟨j, ds, F1, hj, rfl, rfl, Q, hds, HF, B⟩ := hrel
      by_cases hlt : j < 100
      · have hQ := fun W (h : Is W w.heap.size F1 m k (xs ++ List.replicate j false) ds) => add_is false h h1 h2 hm (by simp; omega) (by omega)
        rw [← more] at hQ
        obtain ⟨b, hb⟩ : ∃ b, bad m k (xs ++ List.replicate (j + 1) false) = b := ⟨_, rfl⟩
        rw [hb] at hQ
        have HMAY : Hid (may m k xs (j + 1) = (may m k xs j && !b)) := Lib.hid (by simp only [may]; rw [hb])
        have HQ := Lib.hid hQ
        clear hQ hb
        obtain ⟨o, ho⟩ : ∃ o, may m k xs j = o := ⟨_, rfl⟩
        rw [ho] at HMAY ⊢
        clear ho
        cases b with
        | true =>
          go_wp2_with fail
          refine (HQ.out _ Q).mono ?_
          rintro e w5 ⟨rfl, ⟨F5, Q5, f5⟩, k5⟩
          have B5 := below_keeps B k5 B.size HF
          have HF5 : ∀ b, F5 b → w.heap.size ≤ b := fun b hb => (f5 b hb).elim (HF b) (fun h => Nat.le_trans B.size h)
          clear Q B k5 f5 HF
          simp only [Bool.not_true]
          go_wp2_with fail
          go_roundw
          case rel => exact ⟨j + 1, _, F5, hlt, by rw [HMAY.out]; simp, by go_num, Q5, by simp; omega, HF5, B5⟩
          case measure => simp [intOf] <;> omega
        | false =>
          go_wp2_with fail
          refine (HQ.out _ Q).mono ?_
          rintro e w5 ⟨rfl, ⟨F5, Q5, f5⟩, k5⟩
          have B5 := below_keeps B k5 B.size HF
          have HF5 : ∀ b, F5 b → w.heap.size ≤ b := fun b hb => (f5 b hb).elim (HF b) (fun h => Nat.le_trans B.size h)
          clear Q B k5 f5 HF
          simp only [Bool.not_false]
          go_wp2_with fail
          go_roundw
          case rel => exact ⟨j + 1, _, F5, hlt, by rw [HMAY.out]; simp, by go_num, Q5, by simp; omega, HF5, B5⟩
          case measure => simp [intOf] <;> omega
      · obtain rfl : j = 100 := by omega
        go_wp2_with fail
        go_ret
        exact ⟨rfl, Keeps.of_below B⟩
set_option maxHeartbeats 2000000 in
theorem may_mid (p : Nat) (F : Nat → Prop) (m k : Nat) (xs : List Bool) (bs : List Nat) (n : Int) (w : World) (h : Is w p F m k xs bs) (h1 : 1 ≤ k) (h2 : k ≤ 64) (hm : m ≤ k) (hl : xs.length ≤ 190) (N : Nat) (hN : n = (N : Int)) (hb : N ≤ 100) :
    Calls Try.prog 68 #[.pointer (some ⟨p, 0, none⟩), .int .i64 n] w fun e w' => e = .returned (.bool (may m k xs N)) ∧ Keeps (fun _ => False) w w' := by
  obtain ⟨A, c, ha, _⟩ := h
  have c0 := ha.Bl.cellAt (i := 0) rfl
  have c1 := ha.Bl.cellAt (i := 1) rfl
  have c2 := ha.Bl.cellAt (i := 2) rfl
  have c3 := ha.Bl.cellAt (i := 3) rfl
  have c4 := ha.Bl.cellAt (i := 4) rfl
  have c5 := ha.Bl.cellAt (i := 5) rfl
  have c6 := ha.Bl.cellAt (i := 6) rfl
  have c7 := ha.Bl.cellAt (i := 7) rfl
  obtain ⟨bb, hbb⟩ : ∃ b : Nat, b = val xs % 2 ^ k := ⟨_, rfl⟩
  have hcs : cs m k xs (.slice none 0 0) = [.int .i64 (m : Int), .int .i64 (k : Int), .int .i64 (k : Int), .int .i64 ((min xs.length k : Nat) : Int), .int .u64 (bb : Int), .int .i64 (xs.length : Int), .slice none 0 0, .int .i64 ((wst k xs : Nat) : Int)] := by rw [hbb]; rfl
  replace c4 : w.cell? ⟨p, 4, none⟩ = some (.int .u64 (bb : Int)) := by rw [hbb]; exact c4
  have Q0 : Is (w.alloc (.cells (cs m k xs (.slice none 0 0)).toArray 144)) w.heap.size (Foot w.heap.size none) m k xs [] := ⟨none, 0, ⟨Blk.new w _ _, World.ownsRow_nil _ _ _ _⟩, rfl⟩
  have HF0 : ∀ b, Foot w.heap.size none b → w.heap.size ≤ b := by
    rintro b (rfl | hb)
    · exact Nat.le_refl _
    · cases hb
  have B0 : Below w.heap.size w (w.alloc (.cells (cs m k xs (.slice none 0 0)).toArray 144)) := (Below.refl _ _).alloc (Nat.le_refl _) _
  rw [hcs] at Q0 B0
  clear ha hcs hbb
  subst hN
  have hb' : ¬ (100 : Int) < (N : Int) := by omega
  go_enter Try.func68, Try.ntmps68
  go_wp2_with fail
  all_goals
    go_loopw [6, 14] (fun o i wr => MayInv w p F m k xs bs N wr o i) (fun _ i _ => N - (intOf i).toNat)
    case atStart => exact ⟨0, [], _, by omega, rfl, rfl, by simpa using Q0, by simp, HF0, B0⟩
    case round =>
      clear Q0 HF0 B0
      obtain ⟨j, ds, F1, hj, rfl, rfl, Q, hds, HF, B⟩ := hrel
      by_cases hlt : j < N
      · have hQ := fun W (h : Is W w.heap.size F1 m k (xs ++ List.replicate j false) ds) => add_is false h h1 h2 hm (by simp; omega) (by omega)
        rw [← more] at hQ
        obtain ⟨b, hb⟩ : ∃ b, bad m k (xs ++ List.replicate (j + 1) false) = b := ⟨_, rfl⟩
        rw [hb] at hQ
        have HMAY : Hid (may m k xs (j + 1) = (may m k xs j && !b)) := Lib.hid (by simp only [may]; rw [hb])
        have HQ := Lib.hid hQ
        clear hQ hb
        obtain ⟨o, ho⟩ : ∃ o, may m k xs j = o := ⟨_, rfl⟩
        rw [ho] at HMAY ⊢
        clear ho
        cases b with
        | true =>
          go_wp2_with fail
          refine (HQ.out _ Q).mono ?_
          rintro e w5 ⟨rfl, ⟨F5, Q5, f5⟩, k5⟩
          have B5 := below_keeps B k5 B.size HF
          have HF5 : ∀ b, F5 b → w.heap.size ≤ b := fun b hb => (f5 b hb).elim (HF b) (fun h => Nat.le_trans B.size h)
          clear Q B k5 f5 HF
          simp only [Bool.not_true]
          go_wp2_with fail
          go_roundw
          case rel => exact ⟨j + 1, _, F5, hlt, by rw [HMAY.out]; simp, by go_num, Q5, by simp; omega, HF5, B5⟩
          case measure => simp [intOf] <;> omega
        | false =>
          go_wp2_with fail
          refine (HQ.out _ Q).mono ?_
          rintro e w5 ⟨rfl, ⟨F5, Q5, f5⟩, k5⟩
          have B5 := below_keeps B k5 B.size HF
          have HF5 : ∀ b, F5 b → w.heap.size ≤ b := fun b hb => (f5 b hb).elim (HF b) (fun h => Nat.le_trans B.size h)
          clear Q B k5 f5 HF
          simp only [Bool.not_false]
          go_wp2_with fail
          go_roundw
          case rel => exact ⟨j + 1, _, F5, hlt, by rw [HMAY.out]; simp, by go_num, Q5, by simp; omega, HF5, B5⟩
          case measure => simp [intOf] <;> omega
      · obtain rfl : j = N := by omega
        go_wp2_with fail
        go_ret
        exact ⟨rfl, Keeps.of_below B⟩
theorem may_any (p : Nat) (F : Nat → Prop) (m k : Nat) (xs : List Bool) (bs : List Nat) (n : Int) (w : World) (h : Is w p F m k xs bs) (h1 : 1 ≤ k) (h2 : k ≤ 64) (hm : m ≤ k) (hl : xs.length ≤ 190) :
    Calls Try.prog 68 #[.pointer (some ⟨p, 0, none⟩), .int .i64 n] w fun e w' => e = .returned (.bool (may m k xs (min n.toNat 100))) ∧ Keeps (fun _ => False) w w' := by
  by_cases ha : n < 0
  · rw [show min n.toNat 100 = 0 by omega]
    exact may_neg p F m k xs bs n w h h1 h2 hm hl ha
  · by_cases hb : 100 < n
    · rw [show min n.toNat 100 = 100 by omega]
      exact may_big p F m k xs bs n w h h1 h2 hm hl hb
    · obtain ⟨N, rfl⟩ := Int.eq_ofNat_of_zero_le (show 0 ≤ n by omega)
      rw [show min (N : Int).toNat 100 = N by omega]
      exact may_mid p F m k xs bs _ w h h1 h2 hm hl N rfl (by omega)
end Mon
end Go.Proofs.Ytpfhogbkbodfjab
