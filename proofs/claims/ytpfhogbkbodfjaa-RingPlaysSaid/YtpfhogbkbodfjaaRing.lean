/- What each function of package ring does to the block of one Ring; conditions: the block is known whole, 1 ≤ size ≤ 64, the bits are below 2^size. -/
import Derived.Test.YtpfhogbkbodfjaaBase
import Derived.Test.YtpfhogbkbodfjaaPop
namespace Go.Proofs.Ytpfhogbkbodfjaa
open Go.RowKit
set_option linter.unusedVariables false
set_option linter.unusedSimpArgs false
namespace Ring
def cells (s n : Int) (b : Nat) : List Value := [.int .i64 s, .int .i64 n, .int .u64 (b : Int)]
def At (w : World) (p : Nat) (s n : Int) (b : Nat) : Prop := Blk w p 111 (cells s n b)
def addB (s : Int) (b : Nat) (y : Bool) : Nat := (2 * b + y.toNat) % 2 ^ s.toNat

theorem mask (s : Int) (h1 : 1 ≤ s) (h2 : s ≤ 64) : (18446744073709551615 : Int) / 2 ^ (64 - s).toNat = ((2 ^ s.toNat - 1 : Nat) : Int) := by
  have key : ∀ k, k < 65 → (18446744073709551615 : Nat) / 2 ^ (64 - k) = 2 ^ k - 1 := by decide
  have := key s.toNat (by omega)
  have e : (64 - s).toNat = 64 - s.toNat := by omega
  rw [e, ← this]
  rfl
theorem pow_le (s : Int) (h2 : s ≤ 64) : (2 ^ s.toNat : Nat) ≤ 18446744073709551616 := by
  have : (2 : Nat) ^ s.toNat ≤ 2 ^ 64 := Nat.pow_le_pow_right (by omega) (by omega)
  simpa using this
theorem dvd (s : Int) (h2 : s ≤ 64) : (2 ^ s.toNat : Nat) ∣ 18446744073709551616 := by
  have : (2 : Nat) ^ s.toNat ∣ 2 ^ 64 := Nat.pow_dvd_pow 2 (by omega)
  simpa using this
theorem and_mask (s : Int) (h1 : 1 ≤ s) (h2 : s ≤ 64) (x : Nat) (hx : x < 18446744073709551616) : bits .and .u64 (x : Int) ((18446744073709551615 : Int) / 2 ^ (64 - s).toNat) = ((x % 2 ^ s.toNat : Nat) : Int) := by
  rw [mask s h1 h2, u64_and_nat x _ hx (by have := pow_le s h2; omega), Nat.and_two_pow_sub_one_eq_mod]
theorem shl1 (b : Nat) : IntKind.u64.wrap ((b : Int) * 2) = ((2 * b % 18446744073709551616 : Nat) : Int) := by
  simp [IntKind.wrap, IntKind.bits, IntKind.signed]
  omega
theorem or1 (b : Nat) : bits .or .u64 ((2 * b % 18446744073709551616 : Nat) : Int) 1 = ((2 * b % 18446744073709551616 + 1 : Nat) : Int) := by
  have := u64_or_nat (2 * b % 18446744073709551616) 1 (by omega) (by omega)
  rw [nat_join 1 _ 1 (by omega) (by omega)] at this
  simpa using this
theorem mod_trade (s : Int) (h2 : s ≤ 64) (x c : Nat) : (x % 18446744073709551616 + c) % 2 ^ s.toNat = (x + c) % 2 ^ s.toNat := by
  rw [Nat.add_mod, Nat.mod_mod_of_dvd _ (dvd s h2), ← Nat.add_mod]
theorem add_yes (s : Int) (h1 : 1 ≤ s) (h2 : s ≤ 64) (b : Nat) :
    bits .and .u64 (bits .or .u64 (IntKind.u64.wrap ((b : Int) * 2)) 1) ((18446744073709551615 : Int) / 2 ^ (64 - s).toNat) = (addB s b true : Nat) := by
  rw [shl1, or1, and_mask s h1 h2 _ (by omega), mod_trade s h2]; rfl
theorem add_no (s : Int) (h1 : 1 ≤ s) (h2 : s ≤ 64) (b : Nat) :
    bits .and .u64 (IntKind.u64.wrap ((b : Int) * 2)) ((18446744073709551615 : Int) / 2 ^ (64 - s).toNat) = (addB s b false : Nat) := by
  rw [shl1, and_mask s h1 h2 _ (by omega)]
  have := mod_trade s h2 (2 * b) 0
  simp only [Nat.add_zero] at this
  rw [this]; rfl
theorem addB_lt (s : Int) (b : Nat) (y : Bool) : addB s b y < 2 ^ s.toNat := Nat.mod_lt _ (Nat.two_pow_pos _)

set_option maxHeartbeats 400000 in
theorem new_ok (s : Int) (w : World) (h1 : 1 ≤ s) (h2 : s ≤ 64) :
    Calls Try.prog 26 #[.int .i64 s] w fun e w' => e = .returned (.tuple #[.pointer (some ⟨w.heap.size, 0, none⟩), .int .i64 0]) ∧ w' = w.alloc (.cells (cells s 0 0).toArray 111) := by
  go_enter Try.func26, Try.ntmps26
  go_wp2
  go_ret2
  exact ⟨rfl, rfl⟩
theorem new_any (s : Int) (w : World) (h1 : 1 ≤ s) (h2 : s ≤ 64) :
    Calls Try.prog 26 #[.int .i64 s] w fun e w' => ∃ p, e = .returned (.tuple #[.pointer (some ⟨p, 0, none⟩), .int .i64 0]) ∧ w.heap.size ≤ p ∧ At w' p s 0 0 ∧ Keeps (fun _ => False) w w' :=
  (new_ok s w h1 h2).mono fun e w' ⟨he, hw⟩ => ⟨_, he, Nat.le_refl _, by rw [hw]; exact Blk.new _ _ _, by rw [hw]; exact (Keeps.refl _ _).alloc _⟩
theorem new_no (s : Int) (w : World) (h : s < 1 ∨ 64 < s) :
    Calls Try.prog 26 #[.int .i64 s] w fun e w' => e = .returned (.tuple #[.pointer none, .int .i64 1]) ∧ w' = w := by
  rcases h with h | h
  · go_enter Try.func26, Try.ntmps26
    go_wp2
    go_ret2
    exact ⟨rfl, rfl⟩
  · have h' : ¬ s < 1 := by omega
    go_enter Try.func26, Try.ntmps26
    go_wp2
    go_ret2
    exact ⟨rfl, rfl⟩

set_option maxHeartbeats 800000 in
theorem add_any (p : Nat) (s n : Int) (b : Nat) (y : Bool) (w : World) (hs1 : 1 ≤ s) (hs2 : s ≤ 64) (hn0 : 0 ≤ n) (hn : n ≤ s) (hb : At w p s n b) :
    Calls Try.prog 27 #[.pointer (some ⟨p, 0, none⟩), .bool y] w fun e w' => e = .returned (.tuple #[]) ∧ At w' p s (min (n + 1) s) (addB s b y) ∧ Keeps (· = p) w w' := by
  have c0 := hb.cellAt (i := 0) rfl
  have c1 := hb.cellAt (i := 1) rfl
  have c2 := hb.cellAt (i := 2) rfl
  have f := hb.frozen
  have e1 : ¬ s < n + 1 → min (n + 1) s = n + 1 := by omega
  have e2 : s < n + 1 → min (n + 1) s = s := by omega
  have K : Keeps (· = p) w w := Keeps.refl _ _
  have HB := Lib.hid hb
  have E1 := Lib.hid e1
  have E2 := Lib.hid e2
  have HK := Lib.hid K
  clear hb e1 e2 K
  go_enter Try.func27, Try.ntmps27
  go_wp2
  all_goals go_region
  all_goals go_wp2
  all_goals go_region
  all_goals go_wp2
  all_goals go_end0
  · have hy : y = true := by assumption
    subst hy
    rw [E2.out (by omega), add_yes s hs1 hs2]
    exact ⟨rfl, (((HB.out.set_ 2 _).set_ 2 _).set_ 1 _).set_ 2 _, ((((HK.out.setCell _ (.inl rfl) _).setCell _ (.inl rfl) _).setCell _ (.inl rfl) _).setCell _ (.inl rfl) _).drew.drew⟩
  · have hy : y = true := by assumption
    subst hy
    rw [E1.out (by omega), add_yes s hs1 hs2]
    exact ⟨rfl, (((HB.out.set_ 2 _).set_ 2 _).set_ 1 _).set_ 2 _, ((((HK.out.setCell _ (.inl rfl) _).setCell _ (.inl rfl) _).setCell _ (.inl rfl) _).setCell _ (.inl rfl) _).drew.drew⟩
  · have hy : y = false := by assumption
    subst hy
    rw [E2.out (by omega), add_no s hs1 hs2]
    exact ⟨rfl, ((HB.out.set_ 2 _).set_ 1 _).set_ 2 _, (((HK.out.setCell _ (.inl rfl) _).setCell _ (.inl rfl) _).setCell _ (.inl rfl) _).drew.drew⟩
  · have hy : y = false := by assumption
    subst hy
    rw [E1.out (by omega), add_no s hs1 hs2]
    exact ⟨rfl, ((HB.out.set_ 2 _).set_ 1 _).set_ 2 _, (((HK.out.setCell _ (.inl rfl) _).setCell _ (.inl rfl) _).setCell _ (.inl rfl) _).drew.drew⟩

set_option maxHeartbeats 400000 in
theorem bits_any (p : Nat) (s n : Int) (b : Nat) (w : World) (hb : At w p s n b) :
    Calls Try.prog 28 #[.pointer (some ⟨p, 0, none⟩)] w fun e w' => e = .returned (.int .u64 (b : Int)) ∧ w = w' := by
  have c2 := hb.cellAt (i := 2) rfl
  clear hb
  go_enter Try.func28, Try.ntmps28
  go_wp2
  go_ret
  exact ⟨rfl, rfl⟩
set_option maxHeartbeats 400000 in
theorem len_any (p : Nat) (s n : Int) (b : Nat) (w : World) (hb : At w p s n b) :
    Calls Try.prog 30 #[.pointer (some ⟨p, 0, none⟩)] w fun e w' => e = .returned (.int .i64 n) ∧ w = w' := by
  have c1 := hb.cellAt (i := 1) rfl
  clear hb
  go_enter Try.func30, Try.ntmps30
  go_wp2
  go_ret
  exact ⟨rfl, rfl⟩
set_option maxHeartbeats 400000 in
theorem yes_any (p : Nat) (s n : Int) (b : Nat) (w : World) (hlt : b < 2 ^ 64) (hb : At w p s n b) :
    Calls Try.prog 29 #[.pointer (some ⟨p, 0, none⟩)] w fun e w' => e = .returned (.int .i64 ((Ones.pop 64 b : Nat) : Int)) ∧ w = w' := by
  have c2 := hb.cellAt (i := 2) rfl
  clear hb
  go_enter Try.func29, Try.ntmps29
  go_wp2_with (go_at_call 57; refine (Ones.ones_any b _ hlt).mono ?_; rintro e w' ⟨rfl, rfl⟩)
  go_ret
  exact ⟨rfl, rfl⟩
/-- The bits behind a row of Adds. -/
def addL (s : Int) (b : Nat) (l : List Bool) : Nat := l.foldl (addB s) b
theorem addL_snoc (s : Int) (b : Nat) (l : List Bool) (y : Bool) : addL s b (l ++ [y]) = addB s (addL s b l) y := by simp [addL]
theorem addL_lt (s : Int) (l : List Bool) : ∀ b, b < 2 ^ s.toNat → addL s b l < 2 ^ s.toNat := by
  induction l with
  | nil => intro b hb; exact hb
  | cons y l ih => intro b hb; exact ih _ (addB_lt _ _ _)
theorem lt64 (s : Int) (h2 : s ≤ 64) {b : Nat} (hb : b < 2 ^ s.toNat) : b < 2 ^ 64 := by have := pow_le s h2; omega
theorem bit_eq (b k : Nat) (hb : b < 2 ^ 64) : (bits .and .u64 ((b : Int) / 2 ^ k) 1 == 1) = b.testBit k := by
  have e : (b : Int) / 2 ^ k = ((b / 2 ^ k : Nat) : Int) := by simp
  have hle : b / 2 ^ k ≤ b := Nat.div_le_self _ _
  have h := u64_and_nat (b / 2 ^ k) 1 (by omega) (by omega)
  rw [nat_mask1] at h
  rw [e]
  have h' : bits .and .u64 ((b / 2 ^ k : Nat) : Int) 1 = ((b / 2 ^ k % 2 : Nat) : Int) := h
  rw [h', Nat.testBit_eq_decide_div_mod_eq]
  rcases Nat.mod_two_eq_zero_or_one (b / 2 ^ k) with h0 | h0 <;> rw [h0] <;> rfl
set_option maxHeartbeats 400000 in
theorem at_in (p : Nat) (s n : Int) (b : Nat) (k : Nat) (t : Bool) (w : World) (hk : (k : Int) < n) (hn : n ≤ 64) (hlt : b < 2 ^ 64) (ht : b.testBit k = t) (hb : At w p s n b) :
    Calls Try.prog 43 #[.pointer (some ⟨p, 0, none⟩), .int .i64 (k : Int)] w fun e w' => e = .returned (.tuple #[.bool t, .bool true]) ∧ w = w' := by
  have c1 := hb.cellAt (i := 1) rfl
  have c2 := hb.cellAt (i := 2) rfl
  have hB := bit_eq b k hlt
  rw [ht] at hB
  clear hb ht
  go_enter Try.func43, Try.ntmps43
  go_wp2
  go_ret2
  exact ⟨rfl, rfl⟩
set_option maxHeartbeats 400000 in
theorem at_out (p : Nat) (s n : Int) (b : Nat) (k : Int) (w : World) (hk : k < 0 ∨ n ≤ k) (hb : At w p s n b) :
    Calls Try.prog 43 #[.pointer (some ⟨p, 0, none⟩), .int .i64 k] w fun e w' => e = .returned (.tuple #[.bool false, .bool false]) ∧ w = w' := by
  have c1 := hb.cellAt (i := 1) rfl
  have c2 := hb.cellAt (i := 2) rfl
  clear hb
  by_cases h0 : k < 0
  · go_enter Try.func43, Try.ntmps43
    go_wp2
    go_ret2
    exact ⟨rfl, rfl⟩
  · have h1 : n ≤ k := by omega
    clear hk
    go_enter Try.func43, Try.ntmps43
    go_wp2
    go_ret2
    exact ⟨rfl, rfl⟩
/-- Above the n ones that are there no bit is set. -/
theorem addB_small (s : Int) (b m : Nat) (y : Bool) (h : b < 2 ^ m) : addB s b y < 2 ^ (min (m + 1) s.toNat) := by
  have h1 := addB_lt s b y
  have h2 : addB s b y ≤ 2 * b + y.toNat := Nat.mod_le _ _
  have hy : y.toNat ≤ 1 := by cases y <;> decide
  by_cases hm : m + 1 ≤ s.toNat
  · rw [Nat.min_eq_left hm, Nat.pow_succ]; omega
  · rw [Nat.min_eq_right (by omega)]; exact h1
theorem no_bit {b m k : Nat} (h : b < 2 ^ m) (hk : m ≤ k) : b.testBit k = false :=
  Nat.testBit_lt_two_pow (Nat.lt_of_lt_of_le h (Nat.pow_le_pow_right (by omega) hk))
theorem pop_bit (b k : Nat) : Ones.pop (k + 1) b = Ones.pop k b + (b.testBit k).toNat := by
  rw [Ones.pop_add k 1 b]
  rw [Ones.pop_one, Nat.testBit_eq_decide_div_mod_eq]
  rcases Nat.mod_two_eq_zero_or_one (b / 2 ^ k) with h0 | h0 <;> rw [h0] <;> rfl
end Ring
end Go.Proofs.Ytpfhogbkbodfjaa
