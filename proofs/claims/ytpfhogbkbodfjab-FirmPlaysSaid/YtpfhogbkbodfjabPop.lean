/- What OnesCount64 computes is the number of ones among 64 bits; conditions: none. -/
import Derived.Test.YtpfhogbkbodfjabOnes
namespace Go.Proofs.Ytpfhogbkbodfjab
open Go.RowKit
set_option linter.unusedVariables false
set_option linter.unusedSimpArgs false
namespace Ones
def pop : Nat → Nat → Nat
  | 0, _ => 0
  | n + 1, b => b % 2 + pop n (b / 2)
theorem pop_le (n : Nat) : ∀ b, pop n b ≤ n := by
  induction n with
  | zero => intro b; simp [pop]
  | succ n ih => intro b; have := ih (b / 2); simp only [pop]; omega
theorem pop_zero (n : Nat) : pop n 0 = 0 := by
  induction n with
  | zero => rfl
  | succ n ih => simp [pop, ih]
theorem pop_add (a : Nat) : ∀ n b, pop (a + n) b = pop a b + pop n (b / 2 ^ a) := by
  induction a with
  | zero => intro n b; simp [pop]
  | succ a ih =>
    intro n b
    rw [show a + 1 + n = (a + n) + 1 from by omega]
    simp only [pop]
    rw [ih, Nat.div_div_eq_div_mul, Nat.pow_succ, Nat.mul_comm 2]
    omega
theorem pop_mod (a : Nat) : ∀ b, pop a (b % 2 ^ a) = pop a b := by
  induction a with
  | zero => intro b; rfl
  | succ a ih =>
    intro b
    simp only [pop]
    have h1 : b % 2 ^ (a + 1) % 2 = b % 2 := Nat.mod_mod_of_dvd _ ⟨2 ^ a, by rw [Nat.pow_succ, Nat.mul_comm]⟩
    have h2 : b % 2 ^ (a + 1) / 2 = b / 2 % 2 ^ a := by
      rw [Nat.pow_succ, Nat.mul_comm, Nat.mod_mul_right_div_self]
    rw [h1, h2, ih]
theorem pop_byte (n r q : Nat) (hr : r < 256) : pop (8 + n) (r + 256 * q) = pop 8 r + pop n q := by
  rw [pop_add, ← pop_mod 8 (r + 256 * q)]
  have h1 : (r + 256 * q) % 2 ^ 8 = r := by omega
  have h2 : (r + 256 * q) / 2 ^ 8 = q := by omega
  rw [h1, h2]

theorem and_byte (r q c m : Nat) (hr : r < 256) (hc : c < 256) : (r + 256 * q) &&& (c + 256 * m) = (r &&& c) + 256 * (q &&& m) := by
  apply Nat.eq_of_testBit_eq
  intro i
  have hrc : (r &&& c) < 2 ^ 8 := Nat.and_lt_two_pow _ (by omega)
  have e1 : r + 256 * q = 2 ^ 8 * q + r := by omega
  have e2 : c + 256 * m = 2 ^ 8 * m + c := by omega
  have e3 : (r &&& c) + 256 * (q &&& m) = 2 ^ 8 * (q &&& m) + (r &&& c) := by omega
  rw [e1, e2, e3, Nat.testBit_and, Nat.testBit_two_pow_mul_add _ (by omega), Nat.testBit_two_pow_mul_add _ (by omega), Nat.testBit_two_pow_mul_add _ hrc]
  split <;> simp [Nat.testBit_and]
def M (c : Nat) : Nat → Nat
  | 0 => 0
  | k + 1 => c + 256 * M c k
theorem M_succ (c k : Nat) : M c (k + 1) = c + 256 * M c k := rfl
def n1 (r : Nat) : Nat := (r / 2 &&& 85) + (r &&& 85)
def n2 (r : Nat) : Nat := (r / 4 &&& 51) + (r &&& 51)
def n3 (r : Nat) : Nat := (r / 16 + r) &&& 15
def N1 (k x : Nat) : Nat := (x / 2 &&& M 85 k) + (x &&& M 85 k)
def N2 (k x : Nat) : Nat := (x / 4 &&& M 51 k) + (x &&& M 51 k)
def N3 (k x : Nat) : Nat := (x / 16 + x) &&& M 15 k
theorem f1 : ∀ r, r < 256 → ∀ c, c < 2 → ((r / 2 + 128 * c) &&& 85) = (r / 2 &&& 85) ∧ n1 r < 256 := by decide +kernel
theorem f2 : ∀ r, r < 256 → ∀ c, c < 4 → ((r / 4 + 64 * c) &&& 51) = (r / 4 &&& 51) ∧ n2 (n1 r) < 256 ∧ n2 (n1 r) % 16 ≤ 4 ∧ n2 (n1 r) / 16 ≤ 4 ∧ n3 (n2 (n1 r)) = pop 8 r := by decide +kernel
theorem f3 : ∀ r, r < 69 → ∀ c, c < 5 → (((r / 16 + 16 * c + r) &&& 15) = n3 r) := by decide +kernel
theorem N1_byte (k r q : Nat) (hr : r < 256) : N1 (k + 1) (r + 256 * q) = n1 r + 256 * N1 k q := by
  unfold N1 n1
  rw [M_succ]
  have e : (r + 256 * q) / 2 = (r / 2 + 128 * (q % 2)) + 256 * (q / 2) := by omega
  rw [e, and_byte _ _ _ _ (by omega) (by omega), and_byte _ _ _ _ hr (by omega), (f1 r hr (q % 2) (by omega)).1]
  omega
theorem N2_byte (k r q : Nat) (hr : r < 256) : N2 (k + 1) (r + 256 * q) = n2 r + 256 * N2 k q := by
  unfold N2 n2
  rw [M_succ]
  have e : (r + 256 * q) / 4 = (r / 4 + 64 * (q % 4)) + 256 * (q / 4) := by omega
  rw [e, and_byte _ _ _ _ (by omega) (by omega), and_byte _ _ _ _ hr (by omega), (f2 r hr (q % 4) (by omega)).1]
  omega
theorem N3_byte (k r q : Nat) (h1 : r % 16 ≤ 4) (h2 : r / 16 ≤ 4) (hq : q % 16 ≤ 4) : N3 (k + 1) (r + 256 * q) = n3 r + 256 * N3 k q := by
  unfold N3
  rw [M_succ]
  have e : (r + 256 * q) / 16 + (r + 256 * q) = (r / 16 + 16 * (q % 16) + r) + 256 * (q / 16 + q) := by omega
  rw [e, and_byte _ _ _ _ (by omega) (by omega), f3 r (by omega) (q % 16) (by omega)]
theorem N_low (k : Nat) : ∀ x, x < 256 ^ k → N2 k (N1 k x) % 16 ≤ 4 := by
  intro x hx
  cases k with
  | zero => simp [N2, M]
  | succ k =>
    have e : x = x % 256 + 256 * (x / 256) := by omega
    rw [e, N1_byte _ _ _ (by omega), N2_byte _ _ _ (f1 (x % 256) (by omega) 0 (by omega)).2]
    have := (f2 (x % 256) (by omega) 0 (by omega)).2.2.1
    omega
theorem N_byte (k r q : Nat) (hr : r < 256) (hq : q < 256 ^ k) : N3 (k + 1) (N2 (k + 1) (N1 (k + 1) (r + 256 * q))) = pop 8 r + 256 * N3 k (N2 k (N1 k q)) := by
  obtain ⟨_, g2, g3, g4, g5⟩ := f2 r hr 0 (by omega)
  rw [N1_byte _ _ _ hr, N2_byte _ _ _ (f1 r hr 0 (by omega)).2, N3_byte _ _ _ g3 g4 (N_low k q hq), g5]
theorem N_zero (x : Nat) : N3 0 x = 0 := by simp [N3, M]

theorem spread (b : Nat) (hb : b < 256 ^ 8) : ∃ p0 p1 p2 p3 p4 p5 p6 p7 : Nat, p0 ≤ 8 ∧ p1 ≤ 8 ∧ p2 ≤ 8 ∧ p3 ≤ 8 ∧ p4 ≤ 8 ∧ p5 ≤ 8 ∧ p6 ≤ 8 ∧ p7 ≤ 8 ∧
    N3 8 (N2 8 (N1 8 b)) = p0 + 256 * (p1 + 256 * (p2 + 256 * (p3 + 256 * (p4 + 256 * (p5 + 256 * (p6 + 256 * p7)))))) ∧ pop 64 b = p0 + p1 + p2 + p3 + p4 + p5 + p6 + p7 := by
  have step : ∀ k n x, x < 256 ^ (k + 1) → ∃ r q, q < 256 ^ k ∧ r < 256 ∧ N3 (k + 1) (N2 (k + 1) (N1 (k + 1) x)) = pop 8 r + 256 * N3 k (N2 k (N1 k q)) ∧ pop (8 + n) x = pop 8 r + pop n q := by
    intro k n x hx
    have hq : x / 256 < 256 ^ k := by rw [Nat.pow_succ] at hx; exact Nat.div_lt_of_lt_mul (by omega)
    have e : x = x % 256 + 256 * (x / 256) := by omega
    refine ⟨x % 256, x / 256, hq, by omega, ?_, ?_⟩
    · rw [← N_byte k _ _ (by omega) hq, ← e]
    · rw [← pop_byte n _ _ (by omega), ← e]
  obtain ⟨r0, q0, h0, _, a0, b0⟩ := step 7 56 b hb
  obtain ⟨r1, q1, h1, _, a1, b1⟩ := step 6 48 q0 h0
  obtain ⟨r2, q2, h2, _, a2, b2⟩ := step 5 40 q1 h1
  obtain ⟨r3, q3, h3, _, a3, b3⟩ := step 4 32 q2 h2
  obtain ⟨r4, q4, h4, _, a4, b4⟩ := step 3 24 q3 h3
  obtain ⟨r5, q5, h5, _, a5, b5⟩ := step 2 16 q4 h4
  obtain ⟨r6, q6, h6, _, a6, b6⟩ := step 1 8 q5 h5
  obtain ⟨r7, q7, h7, _, a7, b7⟩ := step 0 0 q6 h6
  refine ⟨pop 8 r0, pop 8 r1, pop 8 r2, pop 8 r3, pop 8 r4, pop 8 r5, pop 8 r6, pop 8 r7, pop_le _ _, pop_le _ _, pop_le _ _, pop_le _ _, pop_le _ _, pop_le _ _, pop_le _ _, pop_le _ _, ?_, ?_⟩
  · rw [a0, a1, a2, a3, a4, a5, a6, a7, N_zero, Nat.mul_zero, Nat.add_zero]
  · have c0 : pop 64 b = pop 8 r0 + pop 56 q0 := b0
    have c1 : pop 56 q0 = pop 8 r1 + pop 48 q1 := b1
    have c2 : pop 48 q1 = pop 8 r2 + pop 40 q2 := b2
    have c3 : pop 40 q2 = pop 8 r3 + pop 32 q3 := b3
    have c4 : pop 32 q3 = pop 8 r4 + pop 24 q4 := b4
    have c5 : pop 24 q4 = pop 8 r5 + pop 16 q5 := b5
    have c6 : pop 16 q5 = pop 8 r6 + pop 8 q6 := b6
    have c7 : pop 8 q6 = pop 8 r7 + pop 0 q7 := b7
    have c8 : pop 0 q7 = 0 := rfl
    omega

theorem wrapu (x : Nat) (h : x < 18446744073709551616) : IntKind.u64.wrap (x : Int) = (x : Int) := by
  simp [IntKind.wrap, IntKind.bits, IntKind.signed]; omega
theorem m8 : M 85 8 = 6148914691236517205 ∧ M 51 8 = 3689348814741910323 ∧ M 15 8 = 1085102592571150095 := by decide
theorem and_lt (x m : Nat) (hm : m < 6148914691236517206) : (x &&& m) < 6148914691236517206 := Nat.lt_of_le_of_lt Nat.and_le_right hm
theorem t1 (x : Nat) (hx : x < 18446744073709551616) : s1 (x : Int) = (N1 8 x : Nat) ∧ N1 8 x < 18446744073709551616 := by
  have h1 := and_lt (x / 2) 6148914691236517205 (by omega)
  have h2 := and_lt x 6148914691236517205 (by omega)
  unfold s1 N1
  rw [m8.1, show ((x : Int) / 2) = ((x / 2 : Nat) : Int) from by omega, show (6148914691236517205 : Int) = ((6148914691236517205 : Nat) : Int) from rfl, u64_and_nat _ _ (by omega) (by omega), u64_and_nat _ _ hx (by omega), ← Int.natCast_add, wrapu _ (by omega)]
  exact ⟨rfl, by omega⟩
theorem t2 (x : Nat) (hx : x < 18446744073709551616) : s2 (x : Int) = (N2 8 x : Nat) ∧ N2 8 x < 18446744073709551616 := by
  have h1 := and_lt (x / 4) 3689348814741910323 (by omega)
  have h2 := and_lt x 3689348814741910323 (by omega)
  unfold s2 N2
  rw [m8.2.1, show ((x : Int) / 4) = ((x / 4 : Nat) : Int) from by omega, show (3689348814741910323 : Int) = ((3689348814741910323 : Nat) : Int) from rfl, u64_and_nat _ _ (by omega) (by omega), u64_and_nat _ _ hx (by omega), ← Int.natCast_add, wrapu _ (by omega)]
  exact ⟨rfl, by omega⟩
theorem N2_small (x : Nat) : N2 8 x ≤ 7378697629483820646 := by
  have h1 : (x / 4 &&& 3689348814741910323) ≤ 3689348814741910323 := Nat.and_le_right
  have h2 : (x &&& 3689348814741910323) ≤ 3689348814741910323 := Nat.and_le_right
  unfold N2
  rw [m8.2.1]
  omega
theorem t3 (x : Nat) (hx : x ≤ 7378697629483820646) : s3 (x : Int) = (N3 8 x : Nat) := by
  unfold s3 N3
  rw [m8.2.2, show ((x : Int) / 16 + x) = ((x / 16 + x : Nat) : Int) from by omega, wrapu _ (by omega), show (1085102592571150095 : Int) = ((1085102592571150095 : Nat) : Int) from rfl, u64_and_nat _ _ (by omega) (by omega)]

theorem sh1 (a R : Nat) (h : a < 256) : (a + 256 * R) / 256 = R := by omega
theorem sh2 (a b R : Nat) (h : a < 256) (h' : b < 256) : (a + 256 * (b + 256 * R)) / 65536 = R := by omega
theorem sh4 (a b c d R : Nat) (h : a < 256) (h' : b < 256) (h2 : c < 256) (h3 : d < 256) : (a + 256 * (b + 256 * (c + 256 * (d + 256 * R)))) / 4294967296 = R := by omega
theorem fold8 (p0 p1 p2 p3 p4 p5 p6 p7 : Nat) (h0 : p0 ≤ 8) (h1 : p1 ≤ 8) (h2 : p2 ≤ 8) (h3 : p3 ≤ 8) (h4 : p4 ≤ 8) (h5 : p5 ≤ 8) (h6 : p6 ≤ 8) (h7 : p7 ≤ 8) :
    ∃ z : Nat, s6 (s5 (s4 ((p0 + 256 * (p1 + 256 * (p2 + 256 * (p3 + 256 * (p4 + 256 * (p5 + 256 * (p6 + 256 * p7)))))) : Nat) : Int))) = (z : Int) ∧ z < 18446744073709551616 ∧ z % 128 = p0 + p1 + p2 + p3 + p4 + p5 + p6 + p7 := by
  have e4 : s4 ((p0 + 256 * (p1 + 256 * (p2 + 256 * (p3 + 256 * (p4 + 256 * (p5 + 256 * (p6 + 256 * p7)))))) : Nat) : Int) = (((p0 + p1) + 256 * ((p1 + p2) + 256 * ((p2 + p3) + 256 * ((p3 + p4) + 256 * ((p4 + p5) + 256 * ((p5 + p6) + 256 * ((p6 + p7) + 256 * p7)))))) : Nat) : Int) := by
    unfold s4
    rw [show ∀ x : Nat, ((x : Int) + (x : Int) / 256) = ((x + x / 256 : Nat) : Int) from fun x => by omega, sh1 _ _ (by omega), wrapu _ (by omega)]
    congr 1
    omega
  have e5 : ∀ q0 q1 q2 q3 q4 q5 q6 q7 : Nat, q0 ≤ 16 → q1 ≤ 16 → q2 ≤ 16 → q3 ≤ 16 → q4 ≤ 16 → q5 ≤ 16 → q6 ≤ 16 → q7 ≤ 16 → s5 ((q0 + 256 * (q1 + 256 * (q2 + 256 * (q3 + 256 * (q4 + 256 * (q5 + 256 * (q6 + 256 * q7)))))) : Nat) : Int) =
      (((q0 + q2) + 256 * ((q1 + q3) + 256 * ((q2 + q4) + 256 * ((q3 + q5) + 256 * ((q4 + q6) + 256 * ((q5 + q7) + 256 * (q6 + 256 * q7)))))) : Nat) : Int) := by
    intro q0 q1 q2 q3 q4 q5 q6 q7 g0 g1 g2 g3 g4 g5 g6 g7
    unfold s5
    rw [show ∀ x : Nat, ((x : Int) + (x : Int) / 65536) = ((x + x / 65536 : Nat) : Int) from fun x => by omega, sh2 _ _ _ (by omega) (by omega), wrapu _ (by omega)]
    congr 1
    omega
  have e6 : ∀ q0 q1 q2 q3 q4 q5 q6 q7 : Nat, q0 ≤ 32 → q1 ≤ 32 → q2 ≤ 32 → q3 ≤ 32 → q4 ≤ 32 → q5 ≤ 32 → q6 ≤ 32 → q7 ≤ 32 → s6 ((q0 + 256 * (q1 + 256 * (q2 + 256 * (q3 + 256 * (q4 + 256 * (q5 + 256 * (q6 + 256 * q7)))))) : Nat) : Int) =
      (((q0 + q4) + 256 * ((q1 + q5) + 256 * ((q2 + q6) + 256 * ((q3 + q7) + 256 * (q4 + 256 * (q5 + 256 * (q6 + 256 * q7)))))) : Nat) : Int) := by
    intro q0 q1 q2 q3 q4 q5 q6 q7 g0 g1 g2 g3 g4 g5 g6 g7
    unfold s6
    rw [show ∀ x : Nat, ((x : Int) + (x : Int) / 4294967296) = ((x + x / 4294967296 : Nat) : Int) from fun x => by omega, sh4 _ _ _ _ _ (by omega) (by omega) (by omega) (by omega), wrapu _ (by omega)]
    congr 1
    omega
  refine ⟨_, by rw [e4, e5 _ _ _ _ _ _ _ _ (by omega) (by omega) (by omega) (by omega) (by omega) (by omega) (by omega) (by omega), e6 _ _ _ _ _ _ _ _ (by omega) (by omega) (by omega) (by omega) (by omega) (by omega) (by omega) (by omega)], by omega, ?_⟩
  have fin : ∀ a R : Nat, a ≤ 64 → (a + 256 * R) % 128 = a := by intro a R h; omega
  rw [fin _ _ (by omega)]
  omega
theorem low7 (z : Nat) (hz : z < 18446744073709551616) : bits .and .i64 (wrap64 (z : Int)) 127 = ((z % 128 : Nat) : Int) := by
  have h : (BitVec.ofInt 64 (wrap64 (z : Int))).toNat = z := by
    rw [BitVec.toNat_ofInt]
    unfold wrap64
    omega
  show IntKind.i64.wrap ((BitVec.ofInt 64 (wrap64 (z : Int)) &&& BitVec.ofInt 64 127).toNat : Int) = _
  rw [BitVec.toNat_and, h]
  have e2 : (BitVec.ofInt 64 127).toNat = 127 := by decide
  rw [e2, nat_mask7, IntKind.wrap_i64]
  omega
theorem ones_eq (b : Nat) (hb : b < 2 ^ 64) : bits .and .i64 (wrap64 (s6 (s5 (s4 (s3 (s2 (s1 (b : Int)))))))) 127 = ((pop 64 b : Nat) : Int) := by
  obtain ⟨a1, l1⟩ := t1 b (by omega)
  obtain ⟨a2, l2⟩ := t2 _ l1
  obtain ⟨p0, p1, p2, p3, p4, p5, p6, p7, h0, h1, h2, h3, h4, h5, h6, h7, hN, hp⟩ := spread b (by omega)
  rw [a1, a2, t3 _ (N2_small _), hN]
  obtain ⟨z, hz, hlt, hm⟩ := fold8 p0 p1 p2 p3 p4 p5 p6 p7 h0 h1 h2 h3 h4 h5 h6 h7
  rw [hz, low7 z hlt, hm, hp]
theorem ones_any (b : Nat) (w : World) (hb : b < 2 ^ 64) :
    Calls Try.prog 86 #[.int .u64 (b : Int)] w fun e w' => e = .returned (.int .i64 ((pop 64 b : Nat) : Int)) ∧ w = w' := by
  have h := ones_raw b w hb
  rw [ones_eq b hb] at h
  exact h
theorem pop_one (x : Nat) : pop 1 x = x % 2 := by simp [pop]
theorem pop_null (x : Nat) : pop 0 x = 0 := rfl
theorem pop_5 : pop 64 5 = 2 := by decide
theorem pop_most : pop 64 18446744073709551614 = 63 := by decide
attribute [irreducible] pop
end Ones
end Go.Proofs.Ytpfhogbkbodfjab
