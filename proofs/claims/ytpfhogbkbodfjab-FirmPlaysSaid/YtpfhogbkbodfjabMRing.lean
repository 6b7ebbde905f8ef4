/- What ring's functions do to the Ring that lies inside a Monitor; conditions: the block is known whole, 1 ≤ size ≤ 64. -/
import Derived.Test.YtpfhogbkbodfjabBase
import Derived.Test.YtpfhogbkbodfjabPop
namespace Go.Proofs.Ytpfhogbkbodfjab
open Go.RowKit
set_option linter.unusedVariables false
set_option linter.unusedSimpArgs false
namespace Ring
def cells (s n : Int) (b : Nat) : List Value := [.int .i64 s, .int .i64 n, .int .u64 (b : Int)]
def addB (s : Int) (b : Nat) (y : Bool) : Nat := (2 * b + y.toNat) % 2 ^ s.toNat

theorem mask (s : Int) (h1 : 1 ≤ s) (h2 : s ≤ 64) : (18446744073709551615 : Int) / 2 ^ (64 - s).toNat = ((2 ^ s.toNat - 1 : Nat) : Int) := by
  have key : ∀ k, k < 65 → (18446744073709551615 : Nat) / 2 ^ (64 - k) = 2 ^ k - 1 := by decide
  have := key s.toNat (by omega)
  have e : (64 - s).toNat = 64 - s.toNat := by omega
  rw [e, ← this]
  rfl
theorem pow_le (s : Int) (h2 : s ≤ 64) : (2 ^ s.toNat : Nat) ≤ 18446744073709551616 := by
  have : (2 : Nat) ^ s.toNat ≤ 2 ^ 64 := Nat.pow_le_pow_right (by omega) (by omega)
  simpa using this
theorem dvd (s : Int) (h2 : s ≤ 64) : (2 ^ s.toNat : Nat) ∣ 18446744073709551616 := by
  have : (2 : Nat) ^ s.toNat ∣ 2 ^ 64 := Nat.pow_dvd_pow 2 (by omega)
  simpa using this
theorem and_mask (s : Int) (h1 : 1 ≤ s) (h2 : s ≤ 64) (x : Nat) (hx : x < 18446744073709551616) : bits .and .u64 (x : Int) ((18446744073709551615 : Int) / 2 ^ (64 - s).toNat) = ((x % 2 ^ s.toNat : Nat) : Int) := by
  rw [mask s h1 h2, u64_and_nat x _ hx (by have := pow_le s h2; omega), Nat.and_two_pow_sub_one_eq_mod]
theorem shl1 (b : Nat) : IntKind.u64.wrap ((b : Int) * 2) = ((2 * b % 18446744073709551616 : Nat) : Int) := by
  simp [IntKind.wrap, IntKind.bits, IntKind.signed]
  omega
theorem or1 (b : Nat) : bits .or .u64 ((2 * b % 18446744073709551616 : Nat) : Int) 1 = ((2 * b % 18446744073709551616 + 1 : Nat) : Int) := by
  have := u64_or_nat (2 * b % 18446744073709551616) 1 (by omega) (by omega)
  rw [nat_join 1 _ 1 (by omega) (by omega)] at this
  simpa using this
theorem mod_trade (s : Int) (h2 : s ≤ 64) (x c : Nat) : (x % 18446744073709551616 + c) % 2 ^ s.toNat = (x + c) % 2 ^ s.toNat := by
  rw [Nat.add_mod, Nat.mod_mod_of_dvd _ (dvd s h2), ← Nat.add_mod]
theorem add_yes (s : Int) (h1 : 1 ≤ s) (h2 : s ≤ 64) (b : Nat) :
    bits .and .u64 (bits .or .u64 (IntKind.u64.wrap ((b : Int) * 2)) 1) ((18446744073709551615 : Int) / 2 ^ (64 - s).toNat) = (addB s b true : Nat) := by
  rw [shl1, or1, and_mask s h1 h2 _ (by omega), mod_trade s h2]; rfl
theorem add_no (s : Int) (h1 : 1 ≤ s) (h2 : s ≤ 64) (b : Nat) :
    bits .and .u64 (IntKind.u64.wrap ((b : Int) * 2)) ((18446744073709551615 : Int) / 2 ^ (64 - s).toNat) = (addB s b false : Nat) := by
  rw [shl1, and_mask s h1 h2 _ (by omega)]
  have := mod_trade s h2 (2 * b) 0
  simp only [Nat.add_zero] at this
  rw [this]; rfl
theorem addB_lt (s : Int) (b : Nat) (y : Bool) : addB s b y < 2 ^ s.toNat := Nat.mod_lt _ (Nat.two_pow_pos _)

set_option maxHeartbeats 400000 in
theorem new_ok (s : Int) (w : World) (h1 : 1 ≤ s) (h2 : s ≤ 64) :
    Calls Try.prog 81 #[.int .i64 s] w fun e w' => e = .returned (.tuple #[.pointer (some ⟨w.heap.size, 0, none⟩), .int .i64 0]) ∧ w' = w.alloc (.cells (cells s 0 0).toArray 142) := by
  go_enter Try.func81, Try.ntmps81
  go_wp2
  go_ret2
  exact ⟨rfl, rfl⟩
theorem new_any (s : Int) (w : World) (h1 : 1 ≤ s) (h2 : s ≤ 64) :
    Calls Try.prog 81 #[.int .i64 s] w fun e w' => ∃ p, e = .returned (.tuple #[.pointer (some ⟨p, 0, none⟩), .int .i64 0]) ∧ w.heap.size ≤ p ∧ Blk w' p 142 (cells s 0 0) ∧ Keeps (fun _ => False) w w' :=
  (new_ok s w h1 h2).mono fun e w' ⟨he, hw⟩ => ⟨_, he, Nat.le_refl _, by rw [hw]; exact Blk.new _ _ _, by rw [hw]; exact (Keeps.refl _ _).alloc _⟩
theorem new_no (s : Int) (w : World) (h : s < 1 ∨ 64 < s) :
    Calls Try.prog 81 #[.int .i64 s] w fun e w' => e = .returned (.tuple #[.pointer none, .int .i64 1]) ∧ w' = w := by
  rcases h with h | h
  · go_enter Try.func81, Try.ntmps81
    go_wp2
    go_ret2
    exact ⟨rfl, rfl⟩
  · have h' : ¬ s < 1 := by omega
    go_enter Try.func81, Try.ntmps81
    go_wp2
    go_ret2
    exact ⟨rfl, rfl⟩


/-- A Monitor's cells. -/
def mon (m k s n : Int) (b : Nat) (t : Int) (v : Value) (wo : Int) : List Value := [.int .i64 m, .int .i64 k, .int .i64 s, .int .i64 n, .int .u64 (b : Int), .int .i64 t, v, .int .i64 wo]
set_option maxHeartbeats 800000 in
theorem add_in (p : Nat) (m k s n : Int) (b : Nat) (t : Int) (v : Value) (wo : Int) (y : Bool) (w : World) (hs1 : 1 ≤ s) (hs2 : s ≤ 64) (hn0 : 0 ≤ n) (hn : n ≤ s) (hb : Blk w p 144 (mon m k s n b t v wo)) :
    Calls Try.prog 82 #[.pointer (some ⟨p, 2, none⟩), .bool y] w fun e w' => e = .returned (.tuple #[]) ∧ Blk w' p 144 (mon m k s (min (n + 1) s) (addB s b y) t v wo) ∧ Keeps (· = p) w w' := by
  have c0 := hb.cellAt (i := 2) rfl
  have c1 := hb.cellAt (i := 3) rfl
  have c2 := hb.cellAt (i := 4) rfl
  have f := hb.frozen
  have e1 : ¬ s < n + 1 → min (n + 1) s = n + 1 := by omega
  have e2 : s < n + 1 → min (n + 1) s = s := by omega
  have K : Keeps (· = p) w w := Keeps.refl _ _
  have HB := Lib.hid hb
  have E1 := Lib.hid e1
  have E2 := Lib.hid e2
  have HK := Lib.hid K
  clear hb e1 e2 K
  go_enter Try.func82, Try.ntmps82
  go_wp2
  all_goals go_region
  all_goals go_wp2
  all_goals go_region
  all_goals go_wp2
  all_goals go_end0
  · have hy : y = true := by assumption
    subst hy
    rw [E2.out (by omega), add_yes s hs1 hs2]
    exact ⟨rfl, (((HB.out.set_ 4 _).set_ 4 _).set_ 3 _).set_ 4 _, ((((HK.out.setCell _ (.inl rfl) _).setCell _ (.inl rfl) _).setCell _ (.inl rfl) _).setCell _ (.inl rfl) _).drew.drew⟩
  · have hy : y = true := by assumption
    subst hy
    rw [E1.out (by omega), add_yes s hs1 hs2]
    exact ⟨rfl, (((HB.out.set_ 4 _).set_ 4 _).set_ 3 _).set_ 4 _, ((((HK.out.setCell _ (.inl rfl) _).setCell _ (.inl rfl) _).setCell _ (.inl rfl) _).setCell _ (.inl rfl) _).drew.drew⟩
  · have hy : y = false := by assumption
    subst hy
    rw [E2.out (by omega), add_no s hs1 hs2]
    exact ⟨rfl, ((HB.out.set_ 4 _).set_ 3 _).set_ 4 _, (((HK.out.setCell _ (.inl rfl) _).setCell _ (.inl rfl) _).setCell _ (.inl rfl) _).drew.drew⟩
  · have hy : y = false := by assumption
    subst hy
    rw [E1.out (by omega), add_no s hs1 hs2]
    exact ⟨rfl, ((HB.out.set_ 4 _).set_ 3 _).set_ 4 _, (((HK.out.setCell _ (.inl rfl) _).setCell _ (.inl rfl) _).setCell _ (.inl rfl) _).drew.drew⟩
set_option maxHeartbeats 400000 in
theorem yes_in (p : Nat) (m k s n : Int) (b : Nat) (t : Int) (v : Value) (wo : Int) (w : World) (hlt : b < 2 ^ 64) (hb : Blk w p 144 (mon m k s n b t v wo)) :
    Calls Try.prog 83 #[.pointer (some ⟨p, 2, none⟩)] w fun e w' => e = .returned (.int .i64 ((Ones.pop 64 b : Nat) : Int)) ∧ w = w' := by
  have c2 := hb.cellAt (i := 4) rfl
  clear hb
  go_enter Try.func83, Try.ntmps83
  go_wp2_with (go_at_call 86; refine (Ones.ones_any b _ hlt).mono ?_; rintro e w' ⟨rfl, rfl⟩)
  go_ret
  exact ⟨rfl, rfl⟩
end Ring
end Go.Proofs.Ytpfhogbkbodfjab
