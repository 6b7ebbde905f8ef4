/- What the reading functions of the reference's Ring answer; conditions: its list has at most 64 bools. -/
import Derived.Test.YtpfhogbkbodfjaaRefRing
import Derived.LoopTactic
namespace Go.Proofs.Ytpfhogbkbodfjaa
open Go.RowKit
set_option linter.unusedVariables false
set_option linter.unusedSimpArgs false
namespace RefRing
def val (xs : List Bool) : Nat := xs.foldl (fun b y => 2 * b + y.toNat) 0
def cnt (xs : List Bool) : Nat := (xs.filter (fun y => y)).length
theorem val_snoc (xs : List Bool) (y : Bool) : val (xs ++ [y]) = 2 * val xs + y.toNat := by simp [val]
theorem cnt_snoc (xs : List Bool) (y : Bool) : cnt (xs ++ [y]) = cnt xs + y.toNat := by cases y <;> simp [cnt]
theorem cnt_le (xs : List Bool) : cnt xs ≤ xs.length := List.length_filter_le _ _
theorem val_lt (xs : List Bool) : val xs < 2 ^ xs.length := by
  induction xs using snoc_ind with
  | h0 => simp [val]
  | h xs y ih =>
    rw [val_snoc, List.length_append, List.length_singleton, Nat.pow_succ]
    have hy : y.toNat ≤ 1 := by cases y <;> decide
    omega
theorem cell_of {w : World} {A : Option Addr} {n c : Nat} {xs : List Bool} (h : Has w 4 1 (.slice A n c) n (xs.map Value.bool)) {k : Nat} (hk : k < n) :
    ∃ g off y, A = some ⟨g, off, none⟩ ∧ xs[k]? = some y ∧ w.cell? ⟨g, off + k, none⟩ = some (.bool y) := by
  obtain ⟨g, off, hA, hc⟩ := h.at_ (by omega)
  have hl : xs.length = n := by have := h.1; simpa using this
  have hx : xs[k]? = some (xs[k]'(by omega)) := List.getElem?_eq_getElem (by omega)
  exact ⟨g, off, _, hA, hx, hc k _ (by rw [List.getElem?_map, hx]; rfl)⟩
set_option maxHeartbeats 1000000 in
theorem yes_any (q : Nat) (s : Int) (xs : List Bool) (w : World) (hl : xs.length ≤ 1000) (h : At w q s xs) :
    Calls Try.prog 46 #[.pointer (some ⟨q, 0, none⟩)] w fun e w' => e = .returned (.int .i64 ((cnt xs : Nat) : Int)) ∧ w = w' := by
  obtain ⟨A, c, hb, hh⟩ := h
  have c1 := hb.cellAt (i := 1) rfl
  clear hb
  obtain ⟨n, hn⟩ : ∃ n, n = xs.length := ⟨_, rfl⟩
  rw [← hn] at c1 hh hl
  have HN := Lib.hid hn
  clear hn
  go_enter Try.func46, Try.ntmps46
  go_wp2
  go_loop [3, 4] (fun m i => ∃ k : Nat, k ≤ n ∧ i = .int .i64 k ∧ m = .int .i64 ((cnt (xs.take k) : Nat) : Int)) (fun _ i => n - (intOf i).toNat)
  case atStart => exact ⟨0, by omega, rfl, rfl⟩
  case round =>
    obtain ⟨k, hk, rfl, rfl⟩ := hrel
    have hcl : cnt (xs.take k) ≤ k := Nat.le_trans (cnt_le _) (List.length_take_le _ _)
    by_cases hlt : k < n
    · obtain ⟨g, off, y, rfl, hy, hc⟩ := cell_of hh hlt
      have HS := Lib.hid (cnt_snoc (xs.take k) y)
      have HY := Lib.hid hy
      clear hy
      go_wp2
      all_goals
        go_round
        case rel => exact ⟨k + 1, by omega, by go_num, by rw [take_next HY.out, HS.out, show y = _ from ‹_›]; go_num⟩
        case measure => simp [intOf]; omega
    · go_wp2
      go_ret
      exact ⟨by rw [List.take_of_length_le (by have := HN.out; omega)]; rfl, rfl⟩
set_option maxHeartbeats 1000000 in
theorem bits_any (q : Nat) (s : Int) (xs : List Bool) (w : World) (hl : xs.length ≤ 64) (h : At w q s xs) :
    Calls Try.prog 47 #[.pointer (some ⟨q, 0, none⟩)] w fun e w' => e = .returned (.int .u64 ((val xs : Nat) : Int)) ∧ w = w' := by
  obtain ⟨A, c, hb, hh⟩ := h
  have c1 := hb.cellAt (i := 1) rfl
  clear hb
  obtain ⟨n, hn⟩ : ∃ n, n = xs.length := ⟨_, rfl⟩
  rw [← hn] at c1 hh hl
  have HN := Lib.hid hn
  clear hn
  go_enter Try.func47, Try.ntmps47
  go_wp2
  go_loop [3, 4] (fun m i => ∃ k : Nat, k ≤ n ∧ i = .int .i64 k ∧ m = .int .u64 ((val (xs.take k) : Nat) : Int)) (fun _ i => n - (intOf i).toNat)
  case atStart => exact ⟨0, by omega, rfl, rfl⟩
  case round =>
    obtain ⟨k, hk, rfl, rfl⟩ := hrel
    by_cases hlt : k < n
    · obtain ⟨g, off, y, rfl, hy, hc⟩ := cell_of hh hlt
      have hvl : 2 * val (xs.take k) + y.toNat < 18446744073709551616 := by
        have h1 := val_lt (xs.take (k + 1))
        rw [take_next hy, val_snoc] at h1
        have h2 : (xs.take k ++ [y]).length ≤ 64 := by simp; omega
        have h3 : 2 ^ (xs.take k ++ [y]).length ≤ 2 ^ 64 := Nat.pow_le_pow_right (by omega) h2
        omega
      have HV := Lib.hid hvl
      have HS := Lib.hid (val_snoc (xs.take k) y)
      have HY := Lib.hid hy
      clear hy hvl
      have HW := Lib.hid (Ring.shl1 (val (xs.take k)))
      have HO := Lib.hid (Ring.or1 (val (xs.take k)))
      go_wp2
      · have hy : y = true := by assumption
        subst hy
        go_round
        case rel =>
          refine ⟨k + 1, by omega, by go_num, ?_⟩
          rw [take_next HY.out, HS.out, HW.out, HO.out, Nat.mod_eq_of_lt (by have := HV.out; omega)]
          rfl
        case measure => simp [intOf]; omega
      · have hy : y = false := by assumption
        subst hy
        go_round
        case rel =>
          refine ⟨k + 1, by omega, by go_num, ?_⟩
          rw [take_next HY.out, HS.out, HW.out, Nat.mod_eq_of_lt (by have := HV.out; omega)]
          rfl
        case measure => simp [intOf]; omega
    · go_wp2
      go_ret
      exact ⟨by rw [List.take_of_length_le (by have := HN.out; omega)]; rfl, rfl⟩
set_option maxHeartbeats 1000000 in
theorem at_out (q : Nat) (s : Int) (xs : List Bool) (k : Int) (w : World) (hl : xs.length ≤ 1000) (hk : k < 0 ∨ xs.length ≤ k) (h : At w q s xs) :
    Calls Try.prog 45 #[.pointer (some ⟨q, 0, none⟩), .int .i64 k] w fun e w' => e = .returned (.tuple #[.bool false, .bool false]) ∧ Keeps (fun _ => False) w w' := by
  obtain ⟨A, c, hb, hh⟩ := h
  have c1 := hb.cellAt (i := 1) rfl
  clear hb hh
  by_cases h0 : k < 0
  · go_enter Try.func45, Try.ntmps45
    go_wp2
    go_ret2
    exact ⟨rfl, Keeps.refl _ _⟩
  · have h1 : (xs.length : Int) ≤ k := by omega
    clear hk
    go_enter Try.func45, Try.ntmps45
    go_wp2
    go_ret2
    exact ⟨rfl, Keeps.refl _ _⟩
set_option maxHeartbeats 1000000 in
theorem at_in (q : Nat) (s : Int) (xs : List Bool) (k : Nat) (y : Bool) (w : World) (hl : xs.length ≤ 1000) (hk : k < xs.length) (hy : xs[xs.length - 1 - k]? = some y) (h : At w q s xs) :
    Calls Try.prog 45 #[.pointer (some ⟨q, 0, none⟩), .int .i64 (k : Int)] w fun e w' => e = .returned (.tuple #[.bool y, .bool true]) ∧ Keeps (fun _ => False) w w' := by
  obtain ⟨A, c, hb, hh⟩ := h
  have c1 := hb.cellAt (i := 1) rfl
  clear hb
  obtain ⟨g, off, y', rfl, hy', hc⟩ := cell_of hh (k := xs.length - 1 - k) (by omega)
  rw [hy] at hy'
  cases hy'
  clear hy hh
  obtain ⟨n, hn⟩ : ∃ n, n = xs.length := ⟨_, rfl⟩
  rw [← hn] at c1 hl hk hc
  clear hn
  obtain ⟨j, hj⟩ : ∃ j, j = n - 1 - k := ⟨_, rfl⟩
  rw [← hj] at hc
  have e1 : (n : Int) - 1 - k = (j : Int) := by omega
  have hjn : (j : Int) < n := by omega
  have hj0 : (0 : Int) ≤ j := by omega
  clear hj
  go_enter Try.func45, Try.ntmps45
  go_wp2
  go_quiet (fail)
  go_wp2
  go_ret2
  exact ⟨rfl, (Keeps.refl _ _).drewN _⟩
end RefRing
end Go.Proofs.Ytpfhogbkbodfjaa
