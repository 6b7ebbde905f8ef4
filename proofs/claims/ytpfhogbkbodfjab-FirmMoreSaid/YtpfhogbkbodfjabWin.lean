/- Rows of met and missed ones: how many of the last k are met, where too few are, the fewest of all; conditions: none. -/
import Derived.Test.YtpfhogbkbodfjabMRing
namespace Go.Proofs.Ytpfhogbkbodfjab
open Go.RowKit
set_option linter.unusedVariables false
set_option linter.unusedSimpArgs false
namespace Win
def val (xs : List Bool) : Nat := xs.foldl (fun b y => 2 * b + y.toNat) 0
def cnt (xs : List Bool) : Nat := (xs.filter (fun y => y)).length
theorem val_snoc (xs : List Bool) (y : Bool) : val (xs ++ [y]) = 2 * val xs + y.toNat := by simp [val]
theorem cnt_app (xs ys : List Bool) : cnt (xs ++ ys) = cnt xs + cnt ys := by simp [cnt]
theorem cnt_one (y : Bool) : cnt [y] = y.toNat := by cases y <;> rfl
theorem cnt_snoc (xs : List Bool) (y : Bool) : cnt (xs ++ [y]) = cnt xs + y.toNat := by rw [cnt_app, cnt_one]
theorem cnt_le (xs : List Bool) : cnt xs ≤ xs.length := List.length_filter_le _ _
theorem val_lt (xs : List Bool) : val xs < 2 ^ xs.length := by
  induction xs using snoc_ind with
  | h0 => simp [val]
  | h xs y ih =>
    rw [val_snoc, List.length_append, List.length_singleton, Nat.pow_succ]
    have hy : y.toNat ≤ 1 := by cases y <;> decide
    omega
theorem val_app (a b : List Bool) : val (a ++ b) = val a * 2 ^ b.length + val b := by
  induction b using snoc_ind with
  | h0 => simp [val]
  | h b y ih =>
    rw [← List.append_assoc, val_snoc, val_snoc, ih, List.length_append, List.length_singleton, Nat.pow_succ, Nat.mul_add]
    have : 2 * (val a * 2 ^ b.length) = val a * (2 ^ b.length * 2) := by rw [Nat.mul_comm 2, Nat.mul_assoc]
    omega
theorem cnt_pop (xs : List Bool) : ∀ n, xs.length ≤ n → Ones.pop n (val xs) = cnt xs := by
  induction xs using snoc_ind with
  | h0 => intro n _; exact Ones.pop_zero n
  | h xs y ih =>
    intro n hn
    simp at hn
    obtain ⟨m, rfl⟩ : ∃ m, n = 1 + m := ⟨n - 1, by omega⟩
    rw [Ones.pop_add, Ones.pop_one, val_snoc, cnt_snoc]
    have hy : y.toNat ≤ 1 := by cases y <;> decide
    rw [show (2 * val xs + y.toNat) / 2 ^ 1 = val xs from by omega, ih m (by omega)]
    omega
/-- The last k. -/
def last (k : Nat) (xs : List Bool) : List Bool := xs.drop (xs.length - k)
theorem last_len (k : Nat) (xs : List Bool) : (last k xs).length = min xs.length k := by unfold last; rw [List.length_drop]; omega
theorem val_mod (k : Nat) (xs : List Bool) : val xs % 2 ^ k = val (last k xs) := by
  unfold last
  by_cases hk : k ≤ xs.length
  · have hl : (xs.drop (xs.length - k)).length = k := by rw [List.length_drop]; omega
    have hv := val_app (xs.take (xs.length - k)) (xs.drop (xs.length - k))
    have hlt := val_lt (xs.drop (xs.length - k))
    rw [List.take_append_drop, hl] at hv
    rw [hl] at hlt
    rw [hv, Nat.add_comm, Nat.add_mul_mod_self_right, Nat.mod_eq_of_lt hlt]
  · rw [show xs.length - k = 0 by omega, List.drop_zero]
    exact Nat.mod_eq_of_lt (Nat.lt_of_lt_of_le (val_lt xs) (Nat.pow_le_pow_right (by omega) (by omega)))
/-- How many of the last k are met. -/
def W (k : Nat) (xs : List Bool) : Nat := cnt (last k xs)
theorem W_le (k : Nat) (xs : List Bool) : W k xs ≤ k := by
  have h1 := cnt_le (last k xs)
  rw [last_len] at h1
  unfold W
  omega
theorem pop_W (k : Nat) (hk : k ≤ 64) (xs : List Bool) : Ones.pop 64 (val xs % 2 ^ k) = W k xs := by
  rw [val_mod]
  exact cnt_pop _ 64 (by rw [last_len]; omega)
theorem addB_val (k : Nat) (xs : List Bool) (y : Bool) : Ring.addB (k : Int) (val xs % 2 ^ k) y = val (xs ++ [y]) % 2 ^ k := by
  unfold Ring.addB
  rw [Int.toNat_natCast, val_snoc]
  simp [Nat.add_mod, Nat.mul_mod]
theorem mod_lt (k : Nat) (hk : k ≤ 64) (xs : List Bool) : val xs % 2 ^ k < 2 ^ 64 := Nat.lt_of_lt_of_le (Nat.mod_lt _ (Nat.two_pow_pos _)) (Nat.pow_le_pow_right (by omega) hk)
/-- Are too few met? -/
def bad (m k : Nat) (xs : List Bool) : Bool := decide (k ≤ xs.length ∧ W k xs < m)
/-- The fewest met of any k in a row, of the first n. -/
def wstN (k : Nat) (xs : List Bool) : Nat → Nat
  | 0 => k
  | n + 1 => if k ≤ n + 1 then min (wstN k xs n) (W k (xs.take (n + 1))) else wstN k xs n
/-- Where too few are met, of the first n. -/
def brkN (m k : Nat) (xs : List Bool) : Nat → List Nat
  | 0 => []
  | n + 1 => brkN m k xs n ++ if k ≤ n + 1 ∧ W k (xs.take (n + 1)) < m then [n] else []
def wst (k : Nat) (xs : List Bool) : Nat := wstN k xs xs.length
def brk (m k : Nat) (xs : List Bool) : List Nat := brkN m k xs xs.length
theorem wstN_app (k : Nat) (xs : List Bool) (y : Bool) : ∀ n, n ≤ xs.length → wstN k (xs ++ [y]) n = wstN k xs n := by
  intro n
  induction n with
  | zero => intro _; rfl
  | succ n ih => intro h; simp only [wstN]; rw [ih (by omega), List.take_append_of_le_length h]
theorem brkN_app (m k : Nat) (xs : List Bool) (y : Bool) : ∀ n, n ≤ xs.length → brkN m k (xs ++ [y]) n = brkN m k xs n := by
  intro n
  induction n with
  | zero => intro _; rfl
  | succ n ih => intro h; simp only [brkN]; rw [ih (by omega), List.take_append_of_le_length h]
theorem take_all (xs : List Bool) (y : Bool) : (xs ++ [y]).take (xs.length + 1) = xs ++ [y] := List.take_of_length_le (by simp)
theorem wst_snoc (k : Nat) (xs : List Bool) (y : Bool) : wst k (xs ++ [y]) = if k ≤ xs.length + 1 then min (wst k xs) (W k (xs ++ [y])) else wst k xs := by
  unfold wst
  rw [show (xs ++ [y]).length = xs.length + 1 by simp]
  simp only [wstN]
  rw [wstN_app k xs y _ (Nat.le_refl _), take_all]
theorem brk_snoc (m k : Nat) (xs : List Bool) (y : Bool) : brk m k (xs ++ [y]) = brk m k xs ++ if bad m k (xs ++ [y]) = true then [xs.length] else [] := by
  unfold brk bad
  rw [show (xs ++ [y]).length = xs.length + 1 by simp]
  simp only [brkN, decide_eq_true_eq]
  rw [brkN_app m k xs y _ (Nat.le_refl _), take_all]
theorem wstN_le (k : Nat) (xs : List Bool) (n : Nat) : wstN k xs n ≤ k := by
  induction n with
  | zero => exact Nat.le_refl _
  | succ n ih => simp only [wstN]; split <;> omega
theorem wst_le (k : Nat) (xs : List Bool) : wst k xs ≤ k := wstN_le k xs _
theorem wstN_short (k : Nat) (xs : List Bool) (n : Nat) (h : n < k) : wstN k xs n = k := by
  induction n with
  | zero => rfl
  | succ n ih => simp only [wstN]; rw [if_neg (by omega)]; exact ih (by omega)
theorem brkN_short (m k : Nat) (xs : List Bool) (n : Nat) (h : n < k) : brkN m k xs n = [] := by
  induction n with
  | zero => rfl
  | succ n ih => simp only [brkN]; rw [if_neg (by omega), ih (by omega)]; rfl
theorem brkN_len (m k : Nat) (xs : List Bool) (n : Nat) : (brkN m k xs n).length ≤ n := by
  induction n with
  | zero => exact Nat.le_refl _
  | succ n ih => simp only [brkN]; rw [List.length_append]; split <;> simp <;> omega
theorem brk_len (m k : Nat) (xs : List Bool) : (brk m k xs).length ≤ xs.length := brkN_len m k xs _
theorem brkN_lt (m k : Nat) (xs : List Bool) (n : Nat) : ∀ i ∈ brkN m k xs n, i < n := by
  induction n with
  | zero => intro i h; simp [brkN] at h
  | succ n ih =>
    intro i h
    simp only [brkN] at h
    rcases List.mem_append.1 h with h | h
    · have := ih i h; omega
    · split at h
      · simp at h; omega
      · simp at h
/-- Broken at all just where the fewest are too few. -/
theorem wst_brk (m k : Nat) (xs : List Bool) (hm : m ≤ k) (n : Nat) : wstN k xs n < m ↔ 0 < (brkN m k xs n).length := by
  induction n with
  | zero => simp [wstN, brkN]; omega
  | succ n ih =>
    simp only [wstN, brkN]
    by_cases h : k ≤ n + 1
    · rw [if_pos h, List.length_append]
      by_cases h2 : W k (xs.take (n + 1)) < m
      · rw [if_pos ⟨h, h2⟩]
        simp
        omega
      · rw [if_neg (fun c => h2 c.2)]
        simp
        omega
    · rw [if_neg h, if_neg (fun c => h c.1)]
      simpa using ih
/-- The window that ends at a place. -/
theorem W_take (k : Nat) (xs : List Bool) (n : Nat) (h : n ≤ xs.length) : W k (xs.take n) = cnt ((xs.take n).drop (n - k)) := by
  unfold W last
  rw [List.length_take, Nat.min_eq_left h]
/-- More met ones: no fewer in any window. -/
theorem cnt_mono : ∀ (xs ys : List Bool), xs.length = ys.length → (∀ i : Nat, xs[i]? = some true → ys[i]? = some true) → cnt xs ≤ cnt ys
  | [], ys, _, _ => by simp [cnt]
  | x :: xs, [], h, _ => by simp at h
  | x :: xs, y :: ys, h, hi => by
    have h1 := cnt_mono xs ys (by simpa using h) (fun i hx => by simpa using hi (i + 1) (by simpa using hx))
    have e : ∀ (z : Bool) zs, cnt (z :: zs) = z.toNat + cnt zs := fun z zs => by
      have := cnt_app [z] zs
      rw [cnt_one] at this
      simpa using this
    rw [e, e]
    have h0 : x = true → y = true := fun hx => by simpa using hi 0 (by simpa using hx)
    cases x with
    | false => simp; omega
    | true => rw [h0 rfl]; omega
theorem W_mono (k : Nat) (xs ys : List Bool) (hl : xs.length = ys.length) (h : ∀ i : Nat, xs[i]? = some true → ys[i]? = some true) : W k xs ≤ W k ys := by
  unfold W last
  refine cnt_mono _ _ (by simp [hl]) (fun i hx => ?_)
  rw [List.getElem?_drop] at hx ⊢
  rw [hl] at hx
  exact h _ hx
/-- May the next n be missed? -/
def may (m k : Nat) (xs : List Bool) : Nat → Bool
  | 0 => true
  | n + 1 => may m k xs n && !bad m k (xs ++ List.replicate (n + 1) false)
theorem may_down (m k : Nat) (xs : List Bool) (a b : Nat) (h : may m k xs a = false) (hab : a ≤ b) : may m k xs b = false := by
  induction b with
  | zero => rw [Nat.le_zero.1 hab] at h; exact h
  | succ b ih =>
    by_cases e : a = b + 1
    · rw [← e]; exact h
    · simp only [may]; rw [ih (by omega)]; rfl
theorem more (xs : List Bool) (n : Nat) : xs ++ List.replicate (n + 1) false = (xs ++ List.replicate n false) ++ [false] := by
  rw [List.replicate_succ', List.append_assoc]
end Win
end Go.Proofs.Ytpfhogbkbodfjab
