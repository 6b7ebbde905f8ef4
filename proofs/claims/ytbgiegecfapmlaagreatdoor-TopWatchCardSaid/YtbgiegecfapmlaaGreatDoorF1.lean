/- What OnesCount64 computes is the number of ones among 64 bits; conditions: none. What ring's functions do to the Ring that lies inside a Monitor; conditions: the block is known whole, 1 ≤ size ≤ 64. Rows of met and missed ones: how many of the last k are met, where too few are, the fewest of all; conditions: none. What each function of package firm does to one Monitor; conditions: 1 ≤ k ≤ 64, m ≤ k, at most 1000 were told. What each function of package firm does to one Monitor; conditions: 1 ≤ k ≤ 64, m ≤ k, at most 1000 were told. A Monitor of the call's own: what Add, Broken, Worst, May answer; conditions: 1 ≤ k ≤ 64, m ≤ k, at most 300 were told. -/
import Derived.Test.YtbgiegecfapmlaaGreatDoorBase
import Derived.Laws.BitsAllLaws
import Derived.Test.YtbgiegecfapmlaaGreatDoorSlice
import Derived.Deep.RegionLaw
import Derived.IntWalk
import Derived.LoopTactic
namespace Go.Proofs.YtbgiegecfapmlaaGreatDoor
open Go.RowKit
set_option linter.unusedVariables false
set_option linter.unusedSimpArgs false
namespace Ones
def s1 (x : Int) : Int := IntKind.u64.wrap (bits .and .u64 (x / 2) 6148914691236517205 + bits .and .u64 x 6148914691236517205)
def s2 (x : Int) : Int := IntKind.u64.wrap (bits .and .u64 (x / 4) 3689348814741910323 + bits .and .u64 x 3689348814741910323)
def s3 (x : Int) : Int := bits .and .u64 (IntKind.u64.wrap (x / 16 + x)) 1085102592571150095
def s4 (x : Int) : Int := IntKind.u64.wrap (x + x / 256)
def s5 (x : Int) : Int := IntKind.u64.wrap (x + x / 65536)
def s6 (x : Int) : Int := IntKind.u64.wrap (x + x / 4294967296)
set_option maxHeartbeats 400000 in
theorem ones_raw (b : Nat) (w : World) (hb : b < 2 ^ 64) :
    Calls Tryz.prog 147 #[.int .u64 (b : Int)] w fun e w' => e = .returned (.int .i64 (bits .and .i64 (wrap64 (s6 (s5 (s4 (s3 (s2 (s1 b))))))) 127)) ∧ w = w' := by
  go_enter Tryz.func147, Tryz.ntmps147
  go_wp2
  go_ret
  exact ⟨rfl, rfl⟩
end Ones
end Go.Proofs.YtbgiegecfapmlaaGreatDoor

namespace Go.Proofs.YtbgiegecfapmlaaGreatDoor
open Go.RowKit
set_option linter.unusedVariables false
set_option linter.unusedSimpArgs false
namespace Ones
def pop : Nat → Nat → Nat
  | 0, _ => 0
  | n + 1, b => b % 2 + pop n (b / 2)
theorem pop_le (n : Nat) : ∀ b, pop n b ≤ n := by
  induction n with
  | zero => intro b; simp [pop]
  | succ n ih => intro b; have := ih (b / 2); simp only [pop]; omega
theorem pop_zero (n : Nat) : pop n 0 = 0 := by
  induction n with
  | zero => rfl
  | succ n ih => simp [pop, ih]
theorem pop_add (a : Nat) : ∀ n b, pop (a + n) b = pop a b + pop n (b / 2 ^ a) := by
  induction a with
  | zero => intro n b; simp [pop]
  | succ a ih =>
    intro n b
    rw [show a + 1 + n = (a + n) + 1 from by omega]
    simp only [pop]
    rw [ih, Nat.div_div_eq_div_mul, Nat.pow_succ, Nat.mul_comm 2]
    omega
theorem pop_mod (a : Nat) : ∀ b, pop a (b % 2 ^ a) = pop a b := by
  induction a with
  | zero => intro b; rfl
  | succ a ih =>
    intro b
    simp only [pop]
    have h1 : b % 2 ^ (a + 1) % 2 = b % 2 := Nat.mod_mod_of_dvd _ ⟨2 ^ a, by rw [Nat.pow_succ, Nat.mul_comm]⟩
    have h2 : b % 2 ^ (a + 1) / 2 = b / 2 % 2 ^ a := by
      rw [Nat.pow_succ, Nat.mul_comm, Nat.mod_mul_right_div_self]
    rw [h1, h2, ih]
theorem pop_byte (n r q : Nat) (hr : r < 256) : pop (8 + n) (r + 256 * q) = pop 8 r + pop n q := by
  rw [pop_add, ← pop_mod 8 (r + 256 * q)]
  have h1 : (r + 256 * q) % 2 ^ 8 = r := by omega
  have h2 : (r + 256 * q) / 2 ^ 8 = q := by omega
  rw [h1, h2]

theorem and_byte (r q c m : Nat) (hr : r < 256) (hc : c < 256) : (r + 256 * q) &&& (c + 256 * m) = (r &&& c) + 256 * (q &&& m) := by
  apply Nat.eq_of_testBit_eq
  intro i
  have hrc : (r &&& c) < 2 ^ 8 := Nat.and_lt_two_pow _ (by omega)
  have e1 : r + 256 * q = 2 ^ 8 * q + r := by omega
  have e2 : c + 256 * m = 2 ^ 8 * m + c := by omega
  have e3 : (r &&& c) + 256 * (q &&& m) = 2 ^ 8 * (q &&& m) + (r &&& c) := by omega
  rw [e1, e2, e3, Nat.testBit_and, Nat.testBit_two_pow_mul_add _ (by omega), Nat.testBit_two_pow_mul_add _ (by omega), Nat.testBit_two_pow_mul_add _ hrc]
  split <;> simp [Nat.testBit_and]
def M (c : Nat) : Nat → Nat
  | 0 => 0
  | k + 1 => c + 256 * M c k
theorem M_succ (c k : Nat) : M c (k + 1) = c + 256 * M c k := rfl
def n1 (r : Nat) : Nat := (r / 2 &&& 85) + (r &&& 85)
def n2 (r : Nat) : Nat := (r / 4 &&& 51) + (r &&& 51)
def n3 (r : Nat) : Nat := (r / 16 + r) &&& 15
def N1 (k x : Nat) : Nat := (x / 2 &&& M 85 k) + (x &&& M 85 k)
def N2 (k x : Nat) : Nat := (x / 4 &&& M 51 k) + (x &&& M 51 k)
def N3 (k x : Nat) : Nat := (x / 16 + x) &&& M 15 k
theorem f1 : ∀ r, r < 256 → ∀ c, c < 2 → ((r / 2 + 128 * c) &&& 85) = (r / 2 &&& 85) ∧ n1 r < 256 := by decide +kernel
theorem f2 : ∀ r, r < 256 → ∀ c, c < 4 → ((r / 4 + 64 * c) &&& 51) = (r / 4 &&& 51) ∧ n2 (n1 r) < 256 ∧ n2 (n1 r) % 16 ≤ 4 ∧ n2 (n1 r) / 16 ≤ 4 ∧ n3 (n2 (n1 r)) = pop 8 r := by decide +kernel
theorem f3 : ∀ r, r < 69 → ∀ c, c < 5 → (((r / 16 + 16 * c + r) &&& 15) = n3 r) := by decide +kernel
theorem N1_byte (k r q : Nat) (hr : r < 256) : N1 (k + 1) (r + 256 * q) = n1 r + 256 * N1 k q := by
  unfold N1 n1
  rw [M_succ]
  have e : (r + 256 * q) / 2 = (r / 2 + 128 * (q % 2)) + 256 * (q / 2) := by omega
  rw [e, and_byte _ _ _ _ (by omega) (by omega), and_byte _ _ _ _ hr (by omega), (f1 r hr (q % 2) (by omega)).1]
  omega
theorem N2_byte (k r q : Nat) (hr : r < 256) : N2 (k + 1) (r + 256 * q) = n2 r + 256 * N2 k q := by
  unfold N2 n2
  rw [M_succ]
  have e : (r + 256 * q) / 4 = (r / 4 + 64 * (q % 4)) + 256 * (q / 4) := by omega
  rw [e, and_byte _ _ _ _ (by omega) (by omega), and_byte _ _ _ _ hr (by omega), (f2 r hr (q % 4) (by omega)).1]
  omega
theorem N3_byte (k r q : Nat) (h1 : r % 16 ≤ 4) (h2 : r / 16 ≤ 4) (hq : q % 16 ≤ 4) : N3 (k + 1) (r + 256 * q) = n3 r + 256 * N3 k q := by
  unfold N3
  rw [M_succ]
  have e : (r + 256 * q) / 16 + (r + 256 * q) = (r / 16 + 16 * (q % 16) + r) + 256 * (q / 16 + q) := by omega
  rw [e, and_byte _ _ _ _ (by omega) (by omega), f3 r (by omega) (q % 16) (by omega)]
theorem N_low (k : Nat) : ∀ x, x < 256 ^ k → N2 k (N1 k x) % 16 ≤ 4 := by
  intro x hx
  cases k with
  | zero => simp [N2, M]
  | succ k =>
    have e : x = x % 256 + 256 * (x / 256) := by omega
    rw [e, N1_byte _ _ _ (by omega), N2_byte _ _ _ (f1 (x % 256) (by omega) 0 (by omega)).2]
    have := (f2 (x % 256) (by omega) 0 (by omega)).2.2.1
    omega
theorem N_byte (k r q : Nat) (hr : r < 256) (hq : q < 256 ^ k) : N3 (k + 1) (N2 (k + 1) (N1 (k + 1) (r + 256 * q))) = pop 8 r + 256 * N3 k (N2 k (N1 k q)) := by
  obtain ⟨_, g2, g3, g4, g5⟩ := f2 r hr 0 (by omega)
  rw [N1_byte _ _ _ hr, N2_byte _ _ _ (f1 r hr 0 (by omega)).2, N3_byte _ _ _ g3 g4 (N_low k q hq), g5]
theorem N_zero (x : Nat) : N3 0 x = 0 := by simp [N3, M]

theorem spread (b : Nat) (hb : b < 256 ^ 8) : ∃ p0 p1 p2 p3 p4 p5 p6 p7 : Nat, p0 ≤ 8 ∧ p1 ≤ 8 ∧ p2 ≤ 8 ∧ p3 ≤ 8 ∧ p4 ≤ 8 ∧ p5 ≤ 8 ∧ p6 ≤ 8 ∧ p7 ≤ 8 ∧
    N3 8 (N2 8 (N1 8 b)) = p0 + 256 * (p1 + 256 * (p2 + 256 * (p3 + 256 * (p4 + 256 * (p5 + 256 * (p6 + 256 * p7)))))) ∧ pop 64 b = p0 + p1 + p2 + p3 + p4 + p5 + p6 + p7 := by
  have step : ∀ k n x, x < 256 ^ (k + 1) → ∃ r q, q < 256 ^ k ∧ r < 256 ∧ N3 (k + 1) (N2 (k + 1) (N1 (k + 1) x)) = pop 8 r + 256 * N3 k (N2 k (N1 k q)) ∧ pop (8 + n) x = pop 8 r + pop n q := by
    intro k n x hx
    have hq : x / 256 < 256 ^ k := by rw [Nat.pow_succ] at hx; exact Nat.div_lt_of_lt_mul (by omega)
    have e : x = x % 256 + 256 * (x / 256) := by omega
    refine ⟨x % 256, x / 256, hq, by omega, ?_, ?_⟩
    · rw [← N_byte k _ _ (by omega) hq, ← e]
    · rw [← pop_byte n _ _ (by omega), ← e]
  obtain ⟨r0, q0, h0, _, a0, b0⟩ := step 7 56 b hb
  obtain ⟨r1, q1, h1, _, a1, b1⟩ := step 6 48 q0 h0
  obtain ⟨r2, q2, h2, _, a2, b2⟩ := step 5 40 q1 h1
  obtain ⟨r3, q3, h3, _, a3, b3⟩ := step 4 32 q2 h2
  obtain ⟨r4, q4, h4, _, a4, b4⟩ := step 3 24 q3 h3
  obtain ⟨r5, q5, h5, _, a5, b5⟩ := step 2 16 q4 h4
  obtain ⟨r6, q6, h6, _, a6, b6⟩ := step 1 8 q5 h5
  obtain ⟨r7, q7, h7, _, a7, b7⟩ := step 0 0 q6 h6
  refine ⟨pop 8 r0, pop 8 r1, pop 8 r2, pop 8 r3, pop 8 r4, pop 8 r5, pop 8 r6, pop 8 r7, pop_le _ _, pop_le _ _, pop_le _ _, pop_le _ _, pop_le _ _, pop_le _ _, pop_le _ _, pop_le _ _, ?_, ?_⟩
  · rw [a0, a1, a2, a3, a4, a5, a6, a7, N_zero, Nat.mul_zero, Nat.add_zero]
  · have c0 : pop 64 b = pop 8 r0 + pop 56 q0 := b0
    have c1 : pop 56 q0 = pop 8 r1 + pop 48 q1 := b1
    have c2 : pop 48 q1 = pop 8 r2 + pop 40 q2 := b2
    have c3 : pop 40 q2 = pop 8 r3 + pop 32 q3 := b3
    have c4 : pop 32 q3 = pop 8 r4 + pop 24 q4 := b4
    have c5 : pop 24 q4 = pop 8 r5 + pop 16 q5 := b5
    have c6 : pop 16 q5 = pop 8 r6 + pop 8 q6 := b6
    have c7 : pop 8 q6 = pop 8 r7 + pop 0 q7 := b7
    have c8 : pop 0 q7 = 0 := rfl
    omega

theorem wrapu (x : Nat) (h : x < 18446744073709551616) : IntKind.u64.wrap (x : Int) = (x : Int) := by
  simp [IntKind.wrap, IntKind.bits, IntKind.signed]; omega
theorem m8 : M 85 8 = 6148914691236517205 ∧ M 51 8 = 3689348814741910323 ∧ M 15 8 = 1085102592571150095 := by decide
theorem and_lt (x m : Nat) (hm : m < 6148914691236517206) : (x &&& m) < 6148914691236517206 := Nat.lt_of_le_of_lt Nat.and_le_right hm
theorem t1 (x : Nat) (hx : x < 18446744073709551616) : s1 (x : Int) = (N1 8 x : Nat) ∧ N1 8 x < 18446744073709551616 := by
  have h1 := and_lt (x / 2) 6148914691236517205 (by omega)
  have h2 := and_lt x 6148914691236517205 (by omega)
  unfold s1 N1
  rw [m8.1, show ((x : Int) / 2) = ((x / 2 : Nat) : Int) from by omega, show (6148914691236517205 : Int) = ((6148914691236517205 : Nat) : Int) from rfl, u64_and_nat _ _ (by omega) (by omega), u64_and_nat _ _ hx (by omega), ← Int.natCast_add, wrapu _ (by omega)]
  exact ⟨rfl, by omega⟩
theorem t2 (x : Nat) (hx : x < 18446744073709551616) : s2 (x : Int) = (N2 8 x : Nat) ∧ N2 8 x < 18446744073709551616 := by
  have h1 := and_lt (x / 4) 3689348814741910323 (by omega)
  have h2 := and_lt x 3689348814741910323 (by omega)
  unfold s2 N2
  rw [m8.2.1, show ((x : Int) / 4) = ((x / 4 : Nat) : Int) from by omega, show (3689348814741910323 : Int) = ((3689348814741910323 : Nat) : Int) from rfl, u64_and_nat _ _ (by omega) (by omega), u64_and_nat _ _ hx (by omega), ← Int.natCast_add, wrapu _ (by omega)]
  exact ⟨rfl, by omega⟩
theorem N2_small (x : Nat) : N2 8 x ≤ 7378697629483820646 := by
  have h1 : (x / 4 &&& 3689348814741910323) ≤ 3689348814741910323 := Nat.and_le_right
  have h2 : (x &&& 3689348814741910323) ≤ 3689348814741910323 := Nat.and_le_right
  unfold N2
  rw [m8.2.1]
  omega
theorem t3 (x : Nat) (hx : x ≤ 7378697629483820646) : s3 (x : Int) = (N3 8 x : Nat) := by
  unfold s3 N3
  rw [m8.2.2, show ((x : Int) / 16 + x) = ((x / 16 + x : Nat) : Int) from by omega, wrapu _ (by omega), show (1085102592571150095 : Int) = ((1085102592571150095 : Nat) : Int) from rfl, u64_and_nat _ _ (by omega) (by omega)]

theorem sh1 (a R : Nat) (h : a < 256) : (a + 256 * R) / 256 = R := by omega
theorem sh2 (a b R : Nat) (h : a < 256) (h' : b < 256) : (a + 256 * (b + 256 * R)) / 65536 = R := by omega
theorem sh4 (a b c d R : Nat) (h : a < 256) (h' : b < 256) (h2 : c < 256) (h3 : d < 256) : (a + 256 * (b + 256 * (c + 256 * (d + 256 * R)))) / 4294967296 = R := by omega
theorem fold8 (p0 p1 p2 p3 p4 p5 p6 p7 : Nat) (h0 : p0 ≤ 8) (h1 : p1 ≤ 8) (h2 : p2 ≤ 8) (h3 : p3 ≤ 8) (h4 : p4 ≤ 8) (h5 : p5 ≤ 8) (h6 : p6 ≤ 8) (h7 : p7 ≤ 8) :
    ∃ z : Nat, s6 (s5 (s4 ((p0 + 256 * (p1 + 256 * (p2 + 256 * (p3 + 256 * (p4 + 256 * (p5 + 256 * (p6 + 256 * p7)))))) : Nat) : Int))) = (z : Int) ∧ z < 18446744073709551616 ∧ z % 128 = p0 + p1 + p2 + p3 + p4 + p5 + p6 + p7 := by
  have e4 : s4 ((p0 + 256 * (p1 + 256 * (p2 + 256 * (p3 + 256 * (p4 + 256 * (p5 + 256 * (p6 + 256 * p7)))))) : Nat) : Int) = (((p0 + p1) + 256 * ((p1 + p2) + 256 * ((p2 + p3) + 256 * ((p3 + p4) + 256 * ((p4 + p5) + 256 * ((p5 + p6) + 256 * ((p6 + p7) + 256 * p7)))))) : Nat) : Int) := by
    unfold s4
    rw [show ∀ x : Nat, ((x : Int) + (x : Int) / 256) = ((x + x / 256 : Nat) : Int) from fun x => by omega, sh1 _ _ (by omega), wrapu _ (by omega)]
    congr 1
    omega
  have e5 : ∀ q0 q1 q2 q3 q4 q5 q6 q7 : Nat, q0 ≤ 16 → q1 ≤ 16 → q2 ≤ 16 → q3 ≤ 16 → q4 ≤ 16 → q5 ≤ 16 → q6 ≤ 16 → q7 ≤ 16 → s5 ((q0 + 256 * (q1 + 256 * (q2 + 256 * (q3 + 256 * (q4 + 256 * (q5 + 256 * (q6 + 256 * q7)))))) : Nat) : Int) =
      (((q0 + q2) + 256 * ((q1 + q3) + 256 * ((q2 + q4) + 256 * ((q3 + q5) + 256 * ((q4 + q6) + 256 * ((q5 + q7) + 256 * (q6 + 256 * q7)))))) : Nat) : Int) := by
    intro q0 q1 q2 q3 q4 q5 q6 q7 g0 g1 g2 g3 g4 g5 g6 g7
    unfold s5
    rw [show ∀ x : Nat, ((x : Int) + (x : Int) / 65536) = ((x + x / 65536 : Nat) : Int) from fun x => by omega, sh2 _ _ _ (by omega) (by omega), wrapu _ (by omega)]
    congr 1
    omega
  have e6 : ∀ q0 q1 q2 q3 q4 q5 q6 q7 : Nat, q0 ≤ 32 → q1 ≤ 32 → q2 ≤ 32 → q3 ≤ 32 → q4 ≤ 32 → q5 ≤ 32 → q6 ≤ 32 → q7 ≤ 32 → s6 ((q0 + 256 * (q1 + 256 * (q2 + 256 * (q3 + 256 * (q4 + 256 * (q5 + 256 * (q6 + 256 * q7)))))) : Nat) : Int) =
      (((q0 + q4) + 256 * ((q1 + q5) + 256 * ((q2 + q6) + 256 * ((q3 + q7) + 256 * (q4 + 256 * (q5 + 256 * (q6 + 256 * q7)))))) : Nat) : Int) := by
    intro q0 q1 q2 q3 q4 q5 q6 q7 g0 g1 g2 g3 g4 g5 g6 g7
    unfold s6
    rw [show ∀ x : Nat, ((x : Int) + (x : Int) / 4294967296) = ((x + x / 4294967296 : Nat) : Int) from fun x => by omega, sh4 _ _ _ _ _ (by omega) (by omega) (by omega) (by omega), wrapu _ (by omega)]
    congr 1
    omega
  refine ⟨_, by rw [e4, e5 _ _ _ _ _ _ _ _ (by omega) (by omega) (by omega) (by omega) (by omega) (by omega) (by omega) (by omega), e6 _ _ _ _ _ _ _ _ (by omega) (by omega) (by omega) (by omega) (by omega) (by omega) (by omega) (by omega)], by omega, ?_⟩
  have fin : ∀ a R : Nat, a ≤ 64 → (a + 256 * R) % 128 = a := by intro a R h; omega
  rw [fin _ _ (by omega)]
  omega
theorem low7 (z : Nat) (hz : z < 18446744073709551616) : bits .and .i64 (wrap64 (z : Int)) 127 = ((z % 128 : Nat) : Int) := by
  have h : (BitVec.ofInt 64 (wrap64 (z : Int))).toNat = z := by
    rw [BitVec.toNat_ofInt]
    unfold wrap64
    omega
  show IntKind.i64.wrap ((BitVec.ofInt 64 (wrap64 (z : Int)) &&& BitVec.ofInt 64 127).toNat : Int) = _
  rw [BitVec.toNat_and, h]
  have e2 : (BitVec.ofInt 64 127).toNat = 127 := by decide
  rw [e2, nat_mask7, IntKind.wrap_i64]
  omega
theorem ones_eq (b : Nat) (hb : b < 2 ^ 64) : bits .and .i64 (wrap64 (s6 (s5 (s4 (s3 (s2 (s1 (b : Int)))))))) 127 = ((pop 64 b : Nat) : Int) := by
  obtain ⟨a1, l1⟩ := t1 b (by omega)
  obtain ⟨a2, l2⟩ := t2 _ l1
  obtain ⟨p0, p1, p2, p3, p4, p5, p6, p7, h0, h1, h2, h3, h4, h5, h6, h7, hN, hp⟩ := spread b (by omega)
  rw [a1, a2, t3 _ (N2_small _), hN]
  obtain ⟨z, hz, hlt, hm⟩ := fold8 p0 p1 p2 p3 p4 p5 p6 p7 h0 h1 h2 h3 h4 h5 h6 h7
  rw [hz, low7 z hlt, hm, hp]
theorem ones_any (b : Nat) (w : World) (hb : b < 2 ^ 64) :
    Calls Tryz.prog 147 #[.int .u64 (b : Int)] w fun e w' => e = .returned (.int .i64 ((pop 64 b : Nat) : Int)) ∧ w = w' := by
  have h := ones_raw b w hb
  rw [ones_eq b hb] at h
  exact h
theorem pop_one (x : Nat) : pop 1 x = x % 2 := by simp [pop]
theorem pop_null (x : Nat) : pop 0 x = 0 := rfl
theorem pop_5 : pop 64 5 = 2 := by decide
theorem pop_most : pop 64 18446744073709551614 = 63 := by decide
attribute [irreducible] pop
end Ones
end Go.Proofs.YtbgiegecfapmlaaGreatDoor

namespace Go.Proofs.YtbgiegecfapmlaaGreatDoor
open Go.RowKit
set_option linter.unusedVariables false
set_option linter.unusedSimpArgs false
namespace Ring
def cells (s n : Int) (b : Nat) : List Value := [.int .i64 s, .int .i64 n, .int .u64 (b : Int)]
def addB (s : Int) (b : Nat) (y : Bool) : Nat := (2 * b + y.toNat) % 2 ^ s.toNat

theorem mask (s : Int) (h1 : 1 ≤ s) (h2 : s ≤ 64) : (18446744073709551615 : Int) / 2 ^ (64 - s).toNat = ((2 ^ s.toNat - 1 : Nat) : Int) := by
  have key : ∀ k, k < 65 → (18446744073709551615 : Nat) / 2 ^ (64 - k) = 2 ^ k - 1 := by decide
  have := key s.toNat (by omega)
  have e : (64 - s).toNat = 64 - s.toNat := by omega
  rw [e, ← this]
  rfl
theorem pow_le (s : Int) (h2 : s ≤ 64) : (2 ^ s.toNat : Nat) ≤ 18446744073709551616 := by
  have : (2 : Nat) ^ s.toNat ≤ 2 ^ 64 := Nat.pow_le_pow_right (by omega) (by omega)
  simpa using this
theorem dvd (s : Int) (h2 : s ≤ 64) : (2 ^ s.toNat : Nat) ∣ 18446744073709551616 := by
  have : (2 : Nat) ^ s.toNat ∣ 2 ^ 64 := Nat.pow_dvd_pow 2 (by omega)
  simpa using this
theorem and_mask (s : Int) (h1 : 1 ≤ s) (h2 : s ≤ 64) (x : Nat) (hx : x < 18446744073709551616) : bits .and .u64 (x : Int) ((18446744073709551615 : Int) / 2 ^ (64 - s).toNat) = ((x % 2 ^ s.toNat : Nat) : Int) := by
  rw [mask s h1 h2, u64_and_nat x _ hx (by have := pow_le s h2; omega), Nat.and_two_pow_sub_one_eq_mod]
theorem shl1 (b : Nat) : IntKind.u64.wrap ((b : Int) * 2) = ((2 * b % 18446744073709551616 : Nat) : Int) := by
  simp [IntKind.wrap, IntKind.bits, IntKind.signed]
  omega
theorem or1 (b : Nat) : bits .or .u64 ((2 * b % 18446744073709551616 : Nat) : Int) 1 = ((2 * b % 18446744073709551616 + 1 : Nat) : Int) := by
  have := u64_or_nat (2 * b % 18446744073709551616) 1 (by omega) (by omega)
  rw [nat_join 1 _ 1 (by omega) (by omega)] at this
  simpa using this
theorem mod_trade (s : Int) (h2 : s ≤ 64) (x c : Nat) : (x % 18446744073709551616 + c) % 2 ^ s.toNat = (x + c) % 2 ^ s.toNat := by
  rw [Nat.add_mod, Nat.mod_mod_of_dvd _ (dvd s h2), ← Nat.add_mod]
theorem add_yes (s : Int) (h1 : 1 ≤ s) (h2 : s ≤ 64) (b : Nat) :
    bits .and .u64 (bits .or .u64 (IntKind.u64.wrap ((b : Int) * 2)) 1) ((18446744073709551615 : Int) / 2 ^ (64 - s).toNat) = (addB s b true : Nat) := by
  rw [shl1, or1, and_mask s h1 h2 _ (by omega), mod_trade s h2]; rfl
theorem add_no (s : Int) (h1 : 1 ≤ s) (h2 : s ≤ 64) (b : Nat) :
    bits .and .u64 (IntKind.u64.wrap ((b : Int) * 2)) ((18446744073709551615 : Int) / 2 ^ (64 - s).toNat) = (addB s b false : Nat) := by
  rw [shl1, and_mask s h1 h2 _ (by omega)]
  have := mod_trade s h2 (2 * b) 0
  simp only [Nat.add_zero] at this
  rw [this]; rfl
theorem addB_lt (s : Int) (b : Nat) (y : Bool) : addB s b y < 2 ^ s.toNat := Nat.mod_lt _ (Nat.two_pow_pos _)

set_option maxHeartbeats 400000 in
theorem new_ok (s : Int) (w : World) (h1 : 1 ≤ s) (h2 : s ≤ 64) :
    Calls Tryz.prog 113 #[.int .i64 s] w fun e w' => e = .returned (.tuple #[.pointer (some ⟨w.heap.size, 0, none⟩), .int .i64 0]) ∧ w' = w.alloc (.cells (cells s 0 0).toArray 214) := by
  go_enter Tryz.func113, Tryz.ntmps113
  go_wp2
  go_ret2
  exact ⟨rfl, rfl⟩
theorem new_any (s : Int) (w : World) (h1 : 1 ≤ s) (h2 : s ≤ 64) :
    Calls Tryz.prog 113 #[.int .i64 s] w fun e w' => ∃ p, e = .returned (.tuple #[.pointer (some ⟨p, 0, none⟩), .int .i64 0]) ∧ w.heap.size ≤ p ∧ Blk w' p 214 (cells s 0 0) ∧ Keeps (fun _ => False) w w' :=
  (new_ok s w h1 h2).mono fun e w' ⟨he, hw⟩ => ⟨_, he, Nat.le_refl _, by rw [hw]; exact Blk.new _ _ _, by rw [hw]; exact (Keeps.refl _ _).alloc _⟩
theorem new_no (s : Int) (w : World) (h : s < 1 ∨ 64 < s) :
    Calls Tryz.prog 113 #[.int .i64 s] w fun e w' => e = .returned (.tuple #[.pointer none, .int .i64 1]) ∧ w' = w := by
  rcases h with h | h
  · go_enter Tryz.func113, Tryz.ntmps113
    go_wp2
    go_ret2
    exact ⟨rfl, rfl⟩
  · have h' : ¬ s < 1 := by omega
    go_enter Tryz.func113, Tryz.ntmps113
    go_wp2
    go_ret2
    exact ⟨rfl, rfl⟩


/-- A Monitor's cells. -/
def mon (m k s n : Int) (b : Nat) (t : Int) (v : Value) (wo : Int) : List Value := [.int .i64 m, .int .i64 k, .int .i64 s, .int .i64 n, .int .u64 (b : Int), .int .i64 t, v, .int .i64 wo]
set_option maxHeartbeats 800000 in
theorem add_in (p : Nat) (m k s n : Int) (b : Nat) (t : Int) (v : Value) (wo : Int) (y : Bool) (w : World) (hs1 : 1 ≤ s) (hs2 : s ≤ 64) (hn0 : 0 ≤ n) (hn : n ≤ s) (hb : Blk w p 216 (mon m k s n b t v wo)) :
    Calls Tryz.prog 119 #[.pointer (some ⟨p, 2, none⟩), .bool y] w fun e w' => e = .returned (.tuple #[]) ∧ Blk w' p 216 (mon m k s (min (n + 1) s) (addB s b y) t v wo) ∧ Keeps (· = p) w w' := by
  have c0 := hb.cellAt (i := 2) rfl
  have c1 := hb.cellAt (i := 3) rfl
  have c2 := hb.cellAt (i := 4) rfl
  have f := hb.frozen
  have e1 : ¬ s < n + 1 → min (n + 1) s = n + 1 := by omega
  have e2 : s < n + 1 → min (n + 1) s = s := by omega
  have K : Keeps (· = p) w w := Keeps.refl _ _
  have HB := Lib.hid hb
  have E1 := Lib.hid e1
  have E2 := Lib.hid e2
  have HK := Lib.hid K
  clear hb e1 e2 K
  go_enter Tryz.func119, Tryz.ntmps119
  go_wp2
  all_goals go_region
  all_goals go_wp2
  all_goals go_region
  all_goals go_wp2
  all_goals go_end0
  · have hy : y = true := by assumption
    subst hy
    rw [E2.out (by omega), add_yes s hs1 hs2]
    exact ⟨rfl, (((HB.out.set_ 4 _).set_ 4 _).set_ 3 _).set_ 4 _, ((((HK.out.setCell _ (.inl rfl) _).setCell _ (.inl rfl) _).setCell _ (.inl rfl) _).setCell _ (.inl rfl) _).drew.drew⟩
  · have hy : y = true := by assumption
    subst hy
    rw [E1.out (by omega), add_yes s hs1 hs2]
    exact ⟨rfl, (((HB.out.set_ 4 _).set_ 4 _).set_ 3 _).set_ 4 _, ((((HK.out.setCell _ (.inl rfl) _).setCell _ (.inl rfl) _).setCell _ (.inl rfl) _).setCell _ (.inl rfl) _).drew.drew⟩
  · have hy : y = false := by assumption
    subst hy
    rw [E2.out (by omega), add_no s hs1 hs2]
    exact ⟨rfl, ((HB.out.set_ 4 _).set_ 3 _).set_ 4 _, (((HK.out.setCell _ (.inl rfl) _).setCell _ (.inl rfl) _).setCell _ (.inl rfl) _).drew.drew⟩
  · have hy : y = false := by assumption
    subst hy
    rw [E1.out (by omega), add_no s hs1 hs2]
    exact ⟨rfl, ((HB.out.set_ 4 _).set_ 3 _).set_ 4 _, (((HK.out.setCell _ (.inl rfl) _).setCell _ (.inl rfl) _).setCell _ (.inl rfl) _).drew.drew⟩
set_option maxHeartbeats 400000 in
theorem yes_in (p : Nat) (m k s n : Int) (b : Nat) (t : Int) (v : Value) (wo : Int) (w : World) (hlt : b < 2 ^ 64) (hb : Blk w p 216 (mon m k s n b t v wo)) :
    Calls Tryz.prog 120 #[.pointer (some ⟨p, 2, none⟩)] w fun e w' => e = .returned (.int .i64 ((Ones.pop 64 b : Nat) : Int)) ∧ w = w' := by
  have c2 := hb.cellAt (i := 4) rfl
  clear hb
  go_enter Tryz.func120, Tryz.ntmps120
  go_wp2_with (go_at_call 147; refine (Ones.ones_any b _ hlt).mono ?_; rintro e w' ⟨rfl, rfl⟩)
  go_ret
  exact ⟨rfl, rfl⟩
end Ring
end Go.Proofs.YtbgiegecfapmlaaGreatDoor

namespace Go.Proofs.YtbgiegecfapmlaaGreatDoor
open Go.RowKit
set_option linter.unusedVariables false
set_option linter.unusedSimpArgs false
namespace Win
def val (xs : List Bool) : Nat := xs.foldl (fun b y => 2 * b + y.toNat) 0
def cnt (xs : List Bool) : Nat := (xs.filter (fun y => y)).length
theorem val_snoc (xs : List Bool) (y : Bool) : val (xs ++ [y]) = 2 * val xs + y.toNat := by simp [val]
theorem cnt_app (xs ys : List Bool) : cnt (xs ++ ys) = cnt xs + cnt ys := by simp [cnt]
theorem cnt_one (y : Bool) : cnt [y] = y.toNat := by cases y <;> rfl
theorem cnt_snoc (xs : List Bool) (y : Bool) : cnt (xs ++ [y]) = cnt xs + y.toNat := by rw [cnt_app, cnt_one]
theorem cnt_le (xs : List Bool) : cnt xs ≤ xs.length := List.length_filter_le _ _
theorem val_lt (xs : List Bool) : val xs < 2 ^ xs.length := by
  induction xs using snoc_ind with
  | h0 => simp [val]
  | h xs y ih =>
    rw [val_snoc, List.length_append, List.length_singleton, Nat.pow_succ]
    have hy : y.toNat ≤ 1 := by cases y <;> decide
    omega
theorem val_app (a b : List Bool) : val (a ++ b) = val a * 2 ^ b.length + val b := by
  induction b using snoc_ind with
  | h0 => simp [val]
  | h b y ih =>
    rw [← List.append_assoc, val_snoc, val_snoc, ih, List.length_append, List.length_singleton, Nat.pow_succ, Nat.mul_add]
    have : 2 * (val a * 2 ^ b.length) = val a * (2 ^ b.length * 2) := by rw [Nat.mul_comm 2, Nat.mul_assoc]
    omega
theorem cnt_pop (xs : List Bool) : ∀ n, xs.length ≤ n → Ones.pop n (val xs) = cnt xs := by
  induction xs using snoc_ind with
  | h0 => intro n _; exact Ones.pop_zero n
  | h xs y ih =>
    intro n hn
    simp at hn
    obtain ⟨m, rfl⟩ : ∃ m, n = 1 + m := ⟨n - 1, by omega⟩
    rw [Ones.pop_add, Ones.pop_one, val_snoc, cnt_snoc]
    have hy : y.toNat ≤ 1 := by cases y <;> decide
    rw [show (2 * val xs + y.toNat) / 2 ^ 1 = val xs from by omega, ih m (by omega)]
    omega
/-- The last k. -/
def last (k : Nat) (xs : List Bool) : List Bool := xs.drop (xs.length - k)
theorem last_len (k : Nat) (xs : List Bool) : (last k xs).length = min xs.length k := by unfold last; rw [List.length_drop]; omega
theorem val_mod (k : Nat) (xs : List Bool) : val xs % 2 ^ k = val (last k xs) := by
  unfold last
  by_cases hk : k ≤ xs.length
  · have hl : (xs.drop (xs.length - k)).length = k := by rw [List.length_drop]; omega
    have hv := val_app (xs.take (xs.length - k)) (xs.drop (xs.length - k))
    have hlt := val_lt (xs.drop (xs.length - k))
    rw [List.take_append_drop, hl] at hv
    rw [hl] at hlt
    rw [hv, Nat.add_comm, Nat.add_mul_mod_self_right, Nat.mod_eq_of_lt hlt]
  · rw [show xs.length - k = 0 by omega, List.drop_zero]
    exact Nat.mod_eq_of_lt (Nat.lt_of_lt_of_le (val_lt xs) (Nat.pow_le_pow_right (by omega) (by omega)))
/-- How many of the last k are met. -/
def W (k : Nat) (xs : List Bool) : Nat := cnt (last k xs)
theorem W_le (k : Nat) (xs : List Bool) : W k xs ≤ k := by
  have h1 := cnt_le (last k xs)
  rw [last_len] at h1
  unfold W
  omega
theorem pop_W (k : Nat) (hk : k ≤ 64) (xs : List Bool) : Ones.pop 64 (val xs % 2 ^ k) = W k xs := by
  rw [val_mod]
  exact cnt_pop _ 64 (by rw [last_len]; omega)
theorem addB_val (k : Nat) (xs : List Bool) (y : Bool) : Ring.addB (k : Int) (val xs % 2 ^ k) y = val (xs ++ [y]) % 2 ^ k := by
  unfold Ring.addB
  rw [Int.toNat_natCast, val_snoc]
  simp [Nat.add_mod, Nat.mul_mod]
theorem mod_lt (k : Nat) (hk : k ≤ 64) (xs : List Bool) : val xs % 2 ^ k < 2 ^ 64 := Nat.lt_of_lt_of_le (Nat.mod_lt _ (Nat.two_pow_pos _)) (Nat.pow_le_pow_right (by omega) hk)
/-- Are too few met? -/
def bad (m k : Nat) (xs : List Bool) : Bool := decide (k ≤ xs.length ∧ W k xs < m)
/-- The fewest met of any k in a row, of the first n. -/
def wstN (k : Nat) (xs : List Bool) : Nat → Nat
  | 0 => k
  | n + 1 => if k ≤ n + 1 then min (wstN k xs n) (W k (xs.take (n + 1))) else wstN k xs n
/-- Where too few are met, of the first n. -/
def brkN (m k : Nat) (xs : List Bool) : Nat → List Nat
  | 0 => []
  | n + 1 => brkN m k xs n ++ if k ≤ n + 1 ∧ W k (xs.take (n + 1)) < m then [n] else []
def wst (k : Nat) (xs : List Bool) : Nat := wstN k xs xs.length
def brk (m k : Nat) (xs : List Bool) : List Nat := brkN m k xs xs.length
theorem wstN_app (k : Nat) (xs : List Bool) (y : Bool) : ∀ n, n ≤ xs.length → wstN k (xs ++ [y]) n = wstN k xs n := by
  intro n
  induction n with
  | zero => intro _; rfl
  | succ n ih => intro h; simp only [wstN]; rw [ih (by omega), List.take_append_of_le_length h]
theorem brkN_app (m k : Nat) (xs : List Bool) (y : Bool) : ∀ n, n ≤ xs.length → brkN m k (xs ++ [y]) n = brkN m k xs n := by
  intro n
  induction n with
  | zero => intro _; rfl
  | succ n ih => intro h; simp only [brkN]; rw [ih (by omega), List.take_append_of_le_length h]
theorem take_all (xs : List Bool) (y : Bool) : (xs ++ [y]).take (xs.length + 1) = xs ++ [y] := List.take_of_length_le (by simp)
theorem wst_snoc (k : Nat) (xs : List Bool) (y : Bool) : wst k (xs ++ [y]) = if k ≤ xs.length + 1 then min (wst k xs) (W k (xs ++ [y])) else wst k xs := by
  unfold wst
  rw [show (xs ++ [y]).length = xs.length + 1 by simp]
  simp only [wstN]
  rw [wstN_app k xs y _ (Nat.le_refl _), take_all]
theorem brk_snoc (m k : Nat) (xs : List Bool) (y : Bool) : brk m k (xs ++ [y]) = brk m k xs ++ if bad m k (xs ++ [y]) = true then [xs.length] else [] := by
  unfold brk bad
  rw [show (xs ++ [y]).length = xs.length + 1 by simp]
  simp only [brkN, decide_eq_true_eq]
  rw [brkN_app m k xs y _ (Nat.le_refl _), take_all]
theorem wstN_le (k : Nat) (xs : List Bool) (n : Nat) : wstN k xs n ≤ k := by
  induction n with
  | zero => exact Nat.le_refl _
  | succ n ih => simp only [wstN]; split <;> omega
theorem wst_le (k : Nat) (xs : List Bool) : wst k xs ≤ k := wstN_le k xs _
theorem wstN_short (k : Nat) (xs : List Bool) (n : Nat) (h : n < k) : wstN k xs n = k := by
  induction n with
  | zero => rfl
  | succ n ih => simp only [wstN]; rw [if_neg (by omega)]; exact ih (by omega)
theorem brkN_short (m k : Nat) (xs : List Bool) (n : Nat) (h : n < k) : brkN m k xs n = [] := by
  induction n with
  | zero => rfl
  | succ n ih => simp only [brkN]; rw [if_neg (by omega), ih (by omega)]; rfl
theorem brkN_len (m k : Nat) (xs : List Bool) (n : Nat) : (brkN m k xs n).length ≤ n := by
  induction n with
  | zero => exact Nat.le_refl _
  | succ n ih => simp only [brkN]; rw [List.length_append]; split <;> simp <;> omega
theorem brk_len (m k : Nat) (xs : List Bool) : (brk m k xs).length ≤ xs.length := brkN_len m k xs _
theorem brkN_lt (m k : Nat) (xs : List Bool) (n : Nat) : ∀ i ∈ brkN m k xs n, i < n := by
  induction n with
  | zero => intro i h; simp [brkN] at h
  | succ n ih =>
    intro i h
    simp only [brkN] at h
    rcases List.mem_append.1 h with h | h
    · have := ih i h; omega
    · split at h
      · simp at h; omega
      · simp at h
/-- Broken at all just where the fewest are too few. -/
theorem wst_brk (m k : Nat) (xs : List Bool) (hm : m ≤ k) (n : Nat) : wstN k xs n < m ↔ 0 < (brkN m k xs n).length := by
  induction n with
  | zero => simp [wstN, brkN]; omega
  | succ n ih =>
    simp only [wstN, brkN]
    by_cases h : k ≤ n + 1
    · rw [if_pos h, List.length_append]
      by_cases h2 : W k (xs.take (n + 1)) < m
      · rw [if_pos ⟨h, h2⟩]
        simp
        omega
      · rw [if_neg (fun c => h2 c.2)]
        simp
        omega
    · rw [if_neg h, if_neg (fun c => h c.1)]
      simpa using ih
/-- The window that ends at a place. -/
theorem W_take (k : Nat) (xs : List Bool) (n : Nat) (h : n ≤ xs.length) : W k (xs.take n) = cnt ((xs.take n).drop (n - k)) := by
  unfold W last
  rw [List.length_take, Nat.min_eq_left h]
/-- More met ones: no fewer in any window. -/
theorem cnt_mono : ∀ (xs ys : List Bool), xs.length = ys.length → (∀ i : Nat, xs[i]? = some true → ys[i]? = some true) → cnt xs ≤ cnt ys
  | [], ys, _, _ => by simp [cnt]
  | x :: xs, [], h, _ => by simp at h
  | x :: xs, y :: ys, h, hi => by
    have h1 := cnt_mono xs ys (by simpa using h) (fun i hx => by simpa using hi (i + 1) (by simpa using hx))
    have e : ∀ (z : Bool) zs, cnt (z :: zs) = z.toNat + cnt zs := fun z zs => by
      have := cnt_app [z] zs
      rw [cnt_one] at this
      simpa using this
    rw [e, e]
    have h0 : x = true → y = true := fun hx => by simpa using hi 0 (by simpa using hx)
    cases x with
    | false => simp; omega
    | true => rw [h0 rfl]; omega
theorem W_mono (k : Nat) (xs ys : List Bool) (hl : xs.length = ys.length) (h : ∀ i : Nat, xs[i]? = some true → ys[i]? = some true) : W k xs ≤ W k ys := by
  unfold W last
  refine cnt_mono _ _ (by simp [hl]) (fun i hx => ?_)
  rw [List.getElem?_drop] at hx ⊢
  rw [hl] at hx
  exact h _ hx
/-- May the next n be missed? -/
def may (m k : Nat) (xs : List Bool) : Nat → Bool
  | 0 => true
  | n + 1 => may m k xs n && !bad m k (xs ++ List.replicate (n + 1) false)
theorem may_down (m k : Nat) (xs : List Bool) (a b : Nat) (h : may m k xs a = false) (hab : a ≤ b) : may m k xs b = false := by
  induction b with
  | zero => rw [Nat.le_zero.1 hab] at h; exact h
  | succ b ih =>
    by_cases e : a = b + 1
    · rw [← e]; exact h
    · simp only [may]; rw [ih (by omega)]; rfl
theorem more (xs : List Bool) (n : Nat) : xs ++ List.replicate (n + 1) false = (xs ++ List.replicate n false) ++ [false] := by
  rw [List.replicate_succ', List.append_assoc]
end Win
end Go.Proofs.YtbgiegecfapmlaaGreatDoor

namespace Go.Proofs.YtbgiegecfapmlaaGreatDoor
open Go.RowKit
set_option linter.unusedVariables false
set_option linter.unusedSimpArgs false
namespace Mon
open Win
theorem infoI : (Tryz.prog.info? 3).map (fun i => (i.zero, i.size, i.bytes)) = some (some (.int .i64 0), 1, 8) := by kernel_rfl
def nums (fr : List Nat) : List Value := fr.map fun (i : Nat) => Value.int .i64 (i : Int)
theorem nums_one (fr : List Nat) : ∀ u ∈ nums fr, u.oneCell' = true := by
  intro u hu
  obtain ⟨b, _, rfl⟩ := List.mem_map.1 hu
  rfl
/-- A Monitor's cells behind the row xs. -/
def cs (m k : Nat) (xs : List Bool) (v : Value) : List Value := Ring.mon (m : Int) (k : Int) (k : Int) ((min xs.length k : Nat) : Int) (val xs % 2 ^ k) (xs.length : Int) v ((wst k xs : Nat) : Int)
/-- A Monitor at block p behind the row xs; it tells that it was broken at bs. -/
structure At (w : World) (p : Nat) (A : Option Addr) (c m k : Nat) (xs : List Bool) (bs : List Nat) : Prop where
  Bl : Blk w p 216 (cs m k xs (.slice A bs.length c))
  B : w.ownsRow 0 3 1 (.slice A bs.length c) bs.length (nums bs)
def Foot (p : Nat) (A : Option Addr) (b : Nat) : Prop := b = p ∨ (Value.slice A 0 0).ownBlock = some b
theorem own_same (A : Option Addr) (n c n' c' : Nat) : (Value.slice A n c).ownBlock = (Value.slice A n' c').ownBlock := by cases A <;> rfl
section
variable {w w' : World} {p c m k : Nat} {A : Option Addr} {xs : List Bool} {bs : List Nat} {S : Nat → Prop}
theorem At.kept (h : At w p A c m k xs bs) (kp : Keeps S w w') (hS : ∀ b, Foot p A b → ¬ S b) : At w' p A c m k xs bs :=
  ⟨h.Bl.kept kp (hS p (.inl rfl)), own_kept h.B kp (fun g _ _ hg => hS g (.inr ((own_same A _ _ _ _).trans hg)))⟩
theorem At.stay (h : At w p A c m k xs bs) (kp : Keeps (fun _ => False) w w') : At w' p A c m k xs bs := h.kept kp fun _ _ h => h
theorem At.lt (h : At w p A c m k xs bs) : ∀ b, Foot p A b → b < w.heap.size := by
  rintro b (rfl | hb)
  · exact h.Bl.lt
  · exact (h.B.lt b ((own_same A _ _ _ _).trans hb)).2
theorem At.np (h : At w p A c m k xs bs) : (Value.slice A bs.length c).ownBlock ≠ some p := own_type_ne h.B h.Bl (by decide)
end
set_option maxHeartbeats 400000 in
theorem new_any (m k : Nat) (w : World) (h1 : 1 ≤ k) (h2 : k ≤ 64) (hm : m ≤ k) :
    Calls Tryz.prog 72 #[.int .i64 (m : Int), .int .i64 (k : Int)] w fun e w' => ∃ p, e = .returned (.tuple #[.pointer (some ⟨p, 0, none⟩), .int .i64 0]) ∧ w.heap.size ≤ p ∧ At w' p none 0 m k [] [] ∧ Keeps (fun _ => False) w w' := by
  have h3 : (1 : Int) ≤ (k : Int) := by omega
  have h4 : (k : Int) ≤ 64 := by omega
  have h5 : (m : Int) ≤ (k : Int) := by omega
  have h6 : (0 : Int) ≤ (m : Int) := by omega
  go_enter Tryz.func72, Tryz.ntmps72
  go_wp2_with fail
  refine (Ring.new_any (k : Int) w h3 h4).mono ?_
  rintro e w1 ⟨q, rfl, hq, R1, k1⟩
  have r0 := R1.cellAt (i := 0) rfl
  have r1 := R1.cellAt (i := 1) rfl
  have r2 := R1.cellAt (i := 2) rfl
  have z1 := k1.size
  go_wp2_with fail
  go_ret2
  refine ⟨_, rfl, z1, ⟨?_, World.ownsRow_nil _ _ _ _⟩, k1.alloc _⟩
  have hc : cs m k [] (.slice none ([] : List Nat).length 0) = Ring.mon (m : Int) (k : Int) (k : Int) 0 0 0 (.slice none 0 0) (k : Int) := by
    unfold cs wst wstN val
    simp
  rw [hc]
  exact Blk.new w1 _ (Ring.mon (m : Int) (k : Int) (k : Int) 0 0 0 (.slice none 0 0) (k : Int))
set_option maxHeartbeats 400000 in
theorem new_no (m k : Int) (w : World) (h : ¬ (1 ≤ k ∧ k ≤ 64 ∧ 0 ≤ m ∧ m ≤ k)) :
    Calls Tryz.prog 72 #[.int .i64 m, .int .i64 k] w fun e w' => e = .returned (.tuple #[.pointer none, .int .i64 1]) ∧ Keeps (fun _ => False) w w' := by
  by_cases hk : 1 ≤ k ∧ k ≤ 64
  · obtain ⟨h1, h2⟩ := hk
    by_cases h0 : m < 0
    · clear h
      go_enter Tryz.func72, Tryz.ntmps72
      go_wp2_with fail
      refine (Ring.new_any k w h1 h2).mono ?_
      rintro e w1 ⟨q, rfl, hq, R1, k1⟩
      clear R1
      go_wp2_with fail
      go_ret2
      exact ⟨rfl, k1⟩
    · have h3 : k < m := by omega
      clear h
      go_enter Tryz.func72, Tryz.ntmps72
      go_wp2_with fail
      refine (Ring.new_any k w h1 h2).mono ?_
      rintro e w1 ⟨q, rfl, hq, R1, k1⟩
      clear R1
      go_wp2_with fail
      go_ret2
      exact ⟨rfl, k1⟩
  · have h3 : k < 1 ∨ 64 < k := by omega
    clear h hk
    go_enter Tryz.func72, Tryz.ntmps72
    go_wp2_with fail
    refine (Ring.new_no k w h3).mono ?_
    rintro e w1 ⟨rfl, rfl⟩
    go_wp2_with fail
    go_ret2
    exact ⟨rfl, Keeps.refl _ _⟩
set_option maxHeartbeats 1000000 in
theorem add_short (p : Nat) (A : Option Addr) (c m k : Nat) (xs : List Bool) (bs : List Nat) (y : Bool) (w : World) (h : At w p A c m k xs bs) (h1 : 1 ≤ k) (h2 : k ≤ 64) (hm : m ≤ k) (hl : xs.length ≤ 999) (hs : xs.length + 1 < k) :
    Calls Tryz.prog 82 #[.pointer (some ⟨p, 0, none⟩), .bool y] w fun e w' => e = .returned (.bool true) ∧ At w' p A c m k (xs ++ [y]) bs ∧ Keeps (Foot p A) w w' := by
  have hmn : (0 : Int) ≤ ((min xs.length k : Nat) : Int) := by omega
  have hmk : ((min xs.length k : Nat) : Int) ≤ (k : Int) := by omega
  have hk1 : (1 : Int) ≤ (k : Int) := by omega
  have hk2 : (k : Int) ≤ 64 := by omega
  have hlt := h.lt
  have HLT := Lib.hid hlt
  have hnp := h.np
  have hB := h.B
  have hBl := h.Bl
  clear hlt h
  go_enter Tryz.func82, Tryz.ntmps82
  go_wp2_with fail
  refine (Ring.add_in p _ _ _ _ _ _ _ _ y w hk1 hk2 hmn hmk hBl).mono ?_
  rintro e w1 ⟨rfl, B1, k1⟩
  have O1 := own_kept hB k1 (fun g _ _ hg e => hnp (by rw [← e]; exact hg))
  rw [Win.addB_val, show min (((min xs.length k : Nat) : Int) + 1) (k : Int) = ((min (xs ++ [y]).length k : Nat) : Int) by simp; omega] at B1
  have K1 : Keeps (Foot p A) w w1 := k1.mono (fun _ _ h => .inl h)
  clear hBl hB k1 hmn hmk
  have c1 := B1.cellAt (i := 1) rfl
  have c5 := B1.cellAt (i := 5) rfl
  have f1 := B1.frozen
  have hx0 : (0 : Int) ≤ (xs.length : Int) := by omega
  have hx1 : (xs.length : Int) ≤ 1000 := by omega
  have B2 := B1.set_ 5 (.int .i64 ((xs.length : Int) + 1))
  have O2 := own_kept O1 (S := (· = p)) ((keep1 p w1).setCell ⟨p, 5, none⟩ (.inl rfl) (.int .i64 ((xs.length : Int) + 1))) (fun g _ _ hg e => hnp (by rw [← e]; exact hg))
  have K2 := K1.setCell ⟨p, 5, none⟩ (.inl (.inl rfl)) (.int .i64 ((xs.length : Int) + 1))
  go_wp2_with fail
  clear c1 c5 f1 B1 O1 K1
  generalize w1.setCell ⟨p, 5, none⟩ (.int .i64 ((xs.length : Int) + 1)) = w2 at *
  have d1 : w2.cell? ⟨p, 1, none⟩ = some (.int .i64 (k : Int)) := B2.cellAt (i := 1) rfl
  have d5 : w2.cell? ⟨p, 5, none⟩ = some (.int .i64 ((xs.length : Int) + 1)) := B2.cellAt (i := 5) rfl
  have hs' : (xs.length : Int) + 1 < (k : Int) := by omega
  go_quiet (fail)
  go_wp2_with fail
  go_ret
  refine ⟨rfl, ⟨?_, own_kept O2 (S := fun _ => False) ((Keeps.refl _ _).drewN _) (fun _ _ _ _ h => h)⟩, K2.drewN _⟩
  unfold cs
  rw [wst_snoc, if_neg (by omega)]
  have := B2.drewN nq
  simpa [Ring.mon] using this
end Mon
end Go.Proofs.YtbgiegecfapmlaaGreatDoor

namespace Go.Proofs.YtbgiegecfapmlaaGreatDoor
open Go.RowKit
set_option linter.unusedVariables false
set_option linter.unusedSimpArgs false
namespace Mon
open Win
theorem yes_w {p k : Nat} {m kk s n t wo : Int} {v : Value} (xs : List Bool) {w : World} (h2 : k ≤ 64) (hb : Blk w p 216 (Ring.mon m kk s n (val xs % 2 ^ k) t v wo)) :
    Calls Tryz.prog 120 #[.pointer (some ⟨p, 2, none⟩)] w fun e w' => e = .returned (.int .i64 ((W k xs : Nat) : Int)) ∧ w = w' := by
  have h := Ring.yes_in p m kk s n _ t v wo w (mod_lt k h2 xs) hb
  rw [pop_W k h2] at h
  exact h
set_option maxRecDepth 100000 in
set_option maxHeartbeats 1000000 in
theorem add_good (p : Nat) (A : Option Addr) (c m k : Nat) (xs : List Bool) (bs : List Nat) (y : Bool) (w : World) (h : At w p A c m k xs bs) (h1 : 1 ≤ k) (h2 : k ≤ 64) (hm : m ≤ k) (hl : xs.length ≤ 999) (hs : k ≤ xs.length + 1) (hg : m ≤ W k (xs ++ [y])) :
    Calls Tryz.prog 82 #[.pointer (some ⟨p, 0, none⟩), .bool y] w fun e w' => e = .returned (.bool true) ∧ At w' p A c m k (xs ++ [y]) bs ∧ Keeps (Foot p A) w w' := by
  have hmn : (0 : Int) ≤ ((min xs.length k : Nat) : Int) := by omega
  have hmk : ((min xs.length k : Nat) : Int) ≤ (k : Int) := by omega
  have hk1 : (1 : Int) ≤ (k : Int) := by omega
  have hk2 : (k : Int) ≤ 64 := by omega
  have hlt := h.lt
  have HLT := Lib.hid hlt
  have hnp := h.np
  have hB := h.B
  have hBl := h.Bl
  clear hlt h
  go_enter Tryz.func82, Tryz.ntmps82
  go_wp2_with fail
  refine (Ring.add_in p _ _ _ _ _ _ _ _ y w hk1 hk2 hmn hmk hBl).mono ?_
  rintro e w1 ⟨rfl, B1, k1⟩
  have O1 := own_kept hB k1 (fun g _ _ hg e => hnp (by rw [← e]; exact hg))
  rw [Win.addB_val, show min (((min xs.length k : Nat) : Int) + 1) (k : Int) = ((min (xs ++ [y]).length k : Nat) : Int) by simp; omega] at B1
  have K1 : Keeps (Foot p A) w w1 := k1.mono (fun _ _ h => .inl h)
  clear hBl hB k1 hmn hmk
  have c1 := B1.cellAt (i := 1) rfl
  have c5 := B1.cellAt (i := 5) rfl
  have f1 := B1.frozen
  have hx0 : (0 : Int) ≤ (xs.length : Int) := by omega
  have hx1 : (xs.length : Int) ≤ 1000 := by omega
  have B2 : Blk _ p 216 (Ring.mon (m : Int) (k : Int) (k : Int) ((min (xs ++ [y]).length k : Nat) : Int) (val (xs ++ [y]) % 2 ^ k) ((xs.length : Int) + 1) (.slice A bs.length c) ((wst k xs : Nat) : Int)) := B1.set_ 5 (.int .i64 ((xs.length : Int) + 1))
  have O2 := own_kept O1 (S := (· = p)) ((keep1 p w1).setCell ⟨p, 5, none⟩ (.inl rfl) (.int .i64 ((xs.length : Int) + 1))) (fun g _ _ hg e => hnp (by rw [← e]; exact hg))
  have K2 := K1.setCell ⟨p, 5, none⟩ (.inl (.inl rfl)) (.int .i64 ((xs.length : Int) + 1))
  go_wp2_with fail
  clear c1 c5 f1 B1 O1 K1
  generalize w1.setCell ⟨p, 5, none⟩ (.int .i64 ((xs.length : Int) + 1)) = w2 at *
  have d1 : w2.cell? ⟨p, 1, none⟩ = some (.int .i64 (k : Int)) := B2.cellAt (i := 1) rfl
  have d5 : w2.cell? ⟨p, 5, none⟩ = some (.int .i64 ((xs.length : Int) + 1)) := B2.cellAt (i := 5) rfl
  have hs' : ¬ (xs.length : Int) + 1 < (k : Int) := by omega
  go_quiet (fail)
  go_wp2_with fail
  have B3 := B2.drewN nq
  have O3 := own_kept O2 (S := fun _ => False) ((Keeps.refl _ w2).drewN nq) (fun _ _ _ _ h => h)
  have K3 := K2.drewN nq
  clear d1 d5 B2 O2 K2
  generalize w2.drewN nq = w3 at *
  have d7 : w3.cell? ⟨p, 7, none⟩ = some (.int .i64 ((wst k xs : Nat) : Int)) := B3.cellAt (i := 7) rfl
  have f3 := B3.frozen
  have y3 : Calls Tryz.prog 120 #[.pointer (some ⟨p, 2, none⟩)] w3.drew fun e w'' => e = .returned (.int .i64 ((W k (xs ++ [y]) : Nat) : Int)) ∧ w'' = w3.drew := (yes_w (xs ++ [y]) h2 B3.drew).mono (fun e w'' h => ⟨h.1, h.2.symm⟩)
  obtain ⟨Wn, hWn⟩ : ∃ n : Nat, n = W k (xs ++ [y]) := ⟨_, rfl⟩
  rw [← hWn] at y3 hg
  have hWk : Wn ≤ k := by rw [hWn]; exact W_le _ _
  have HW := Lib.hid hWn
  clear hWn
  obtain ⟨wo, hwo⟩ : ∃ n : Nat, n = wst k xs := ⟨_, rfl⟩
  rw [← hwo] at d7
  have hwk : wo ≤ k := by rw [hwo]; exact wst_le _ _
  have HO := Lib.hid hwo
  clear hwo
  have g0 : (0 : Int) ≤ (Wn : Int) := by omega
  have g1 : (0 : Int) ≤ (wo : Int) := by omega
  have HG := Lib.hid hg
  clear hg
  by_cases hc : (Wn : Int) < (wo : Int)
  · skip
    refine wp_region_still_tail 10 (by kernel_rfl) (by kernel_rfl) ?_
    simp only [List.take_succ_cons, List.take_zero, List.drop_succ_cons, List.drop_zero]
    iterate 8 still_step
    still_call y3
    still_step
    refine wpStill_nil ?_
    clear y3
    have hmin : (min wo Wn : Nat) = Wn := by omega
    have HM := Lib.hid hmin
    clear hmin
    have B4 : Blk _ p 216 (Ring.mon (m : Int) (k : Int) (k : Int) ((min (xs ++ [y]).length k : Nat) : Int) (val (xs ++ [y]) % 2 ^ k) ((xs.length : Int) + 1) (.slice A bs.length c) ((Wn : Nat) : Int)) := (B3.set_ 7 (.int .i64 ((Wn : Nat) : Int))).drew
    have O4 := own_kept O3 (S := (· = p)) (((keep1 p w3).setCell ⟨p, 7, none⟩ (.inl rfl) (.int .i64 ((Wn : Nat) : Int))).drew) (fun g _ _ hg e => hnp (by rw [← e]; exact hg))
    have K4 := (K3.setCell ⟨p, 7, none⟩ (.inl (.inl rfl)) (.int .i64 ((Wn : Nat) : Int))).drew
    go_wp2_with fail
    clear d7 f3 B3 O3 K3
    generalize (w3.setCell ⟨p, 7, none⟩ (.int .i64 ((Wn : Nat) : Int))).drew = w4 at *
    have e0 : w4.cell? ⟨p, 0, none⟩ = some (.int .i64 (m : Int)) := B4.cellAt (i := 0) rfl
    have Y4 := Lib.hid (fun n => quiet_eq (n := n) (w := w4) (by have h := yes_w (xs ++ [y]) h2 (B4.drewN n); rw [← HW.out] at h; exact h))
    have hgi : ¬ (Wn : Int) < (m : Int) := by have := HG.out; omega
    go_quiet ((go_at_call 120; exact Y4.out _))
    go_wp2_with fail
    go_ret
    refine ⟨rfl, ⟨?_, own_kept O4 (S := fun _ => False) ((Keeps.refl _ _).drewN _) (fun _ _ _ _ h => h)⟩, K4.drewN _⟩
    unfold cs
    rw [wst_snoc, if_pos hs, ← HW.out, ← HO.out, HM.out]
    have := B4.drewN nq
    simpa [Ring.mon] using this
  · skip
    refine wp_region_still_tail 10 (by kernel_rfl) (by kernel_rfl) ?_
    simp only [List.take_succ_cons, List.take_zero, List.drop_succ_cons, List.drop_zero]
    iterate 8 still_step
    still_call y3
    still_step
    refine wpStill_nil ?_
    clear y3
    have hmin : (min wo Wn : Nat) = wo := by omega
    have HM := Lib.hid hmin
    clear hmin
    have B4 : Blk _ p 216 (Ring.mon (m : Int) (k : Int) (k : Int) ((min (xs ++ [y]).length k : Nat) : Int) (val (xs ++ [y]) % 2 ^ k) ((xs.length : Int) + 1) (.slice A bs.length c) ((wo : Nat) : Int)) := (B3.set_ 7 (.int .i64 ((wo : Nat) : Int))).drew
    have O4 := own_kept O3 (S := (· = p)) (((keep1 p w3).setCell ⟨p, 7, none⟩ (.inl rfl) (.int .i64 ((wo : Nat) : Int))).drew) (fun g _ _ hg e => hnp (by rw [← e]; exact hg))
    have K4 := (K3.setCell ⟨p, 7, none⟩ (.inl (.inl rfl)) (.int .i64 ((wo : Nat) : Int))).drew
    go_wp2_with fail
    clear d7 f3 B3 O3 K3
    generalize (w3.setCell ⟨p, 7, none⟩ (.int .i64 ((wo : Nat) : Int))).drew = w4 at *
    have e0 : w4.cell? ⟨p, 0, none⟩ = some (.int .i64 (m : Int)) := B4.cellAt (i := 0) rfl
    have Y4 := Lib.hid (fun n => quiet_eq (n := n) (w := w4) (by have h := yes_w (xs ++ [y]) h2 (B4.drewN n); rw [← HW.out] at h; exact h))
    have hgi : ¬ (Wn : Int) < (m : Int) := by have := HG.out; omega
    go_quiet ((go_at_call 120; exact Y4.out _))
    go_wp2_with fail
    go_ret
    refine ⟨rfl, ⟨?_, own_kept O4 (S := fun _ => False) ((Keeps.refl _ _).drewN _) (fun _ _ _ _ h => h)⟩, K4.drewN _⟩
    unfold cs
    rw [wst_snoc, if_pos hs, ← HW.out, ← HO.out, HM.out]
    have := B4.drewN nq
    simpa [Ring.mon] using this
set_option maxRecDepth 100000 in
set_option maxHeartbeats 2000000 in
theorem add_bad (p : Nat) (A : Option Addr) (c m k : Nat) (xs : List Bool) (bs : List Nat) (y : Bool) (w : World) (h : At w p A c m k xs bs) (h1 : 1 ≤ k) (h2 : k ≤ 64) (hm : m ≤ k) (hl : xs.length ≤ 999) (hbl : bs.length ≤ 1000) (hs : k ≤ xs.length + 1) (hg : W k (xs ++ [y]) < m) :
    Calls Tryz.prog 82 #[.pointer (some ⟨p, 0, none⟩), .bool y] w fun e w' => e = .returned (.bool false) ∧ (∃ A' c', At w' p A' c' m k (xs ++ [y]) (bs ++ [xs.length]) ∧ ∀ b, Foot p A' b → Foot p A b ∨ w.heap.size ≤ b) ∧ Keeps (Foot p A) w w' := by
  obtain ⟨i0, hi0, hz0, hz1, hz2⟩ := info_parts infoI
  have hmn : (0 : Int) ≤ ((min xs.length k : Nat) : Int) := by omega
  have hmk : ((min xs.length k : Nat) : Int) ≤ (k : Int) := by omega
  have hk1 : (1 : Int) ≤ (k : Int) := by omega
  have hk2 : (k : Int) ≤ 64 := by omega
  have hlt := h.lt
  have HLT := Lib.hid hlt
  have hnp := h.np
  have hB := h.B
  have hBl := h.Bl
  clear hlt h
  go_enter Tryz.func82, Tryz.ntmps82
  go_wp2_with fail
  refine (Ring.add_in p _ _ _ _ _ _ _ _ y w hk1 hk2 hmn hmk hBl).mono ?_
  rintro e w1 ⟨rfl, B1, k1⟩
  have O1 := own_kept hB k1 (fun g _ _ hg e => hnp (by rw [← e]; exact hg))
  rw [Win.addB_val, show min (((min xs.length k : Nat) : Int) + 1) (k : Int) = ((min (xs ++ [y]).length k : Nat) : Int) by simp; omega] at B1
  have K1 : Keeps (Foot p A) w w1 := k1.mono (fun _ _ h => .inl h)
  clear hBl hB k1 hmn hmk
  have c1 := B1.cellAt (i := 1) rfl
  have c5 := B1.cellAt (i := 5) rfl
  have f1 := B1.frozen
  have hx0 : (0 : Int) ≤ (xs.length : Int) := by omega
  have hx1 : (xs.length : Int) ≤ 1000 := by omega
  have B2 : Blk _ p 216 (Ring.mon (m : Int) (k : Int) (k : Int) ((min (xs ++ [y]).length k : Nat) : Int) (val (xs ++ [y]) % 2 ^ k) ((xs.length : Int) + 1) (.slice A bs.length c) ((wst k xs : Nat) : Int)) := B1.set_ 5 (.int .i64 ((xs.length : Int) + 1))
  have O2 := own_kept O1 (S := (· = p)) ((keep1 p w1).setCell ⟨p, 5, none⟩ (.inl rfl) (.int .i64 ((xs.length : Int) + 1))) (fun g _ _ hg e => hnp (by rw [← e]; exact hg))
  have K2 := K1.setCell ⟨p, 5, none⟩ (.inl (.inl rfl)) (.int .i64 ((xs.length : Int) + 1))
  go_wp2_with fail
  clear c1 c5 f1 B1 O1 K1
  generalize w1.setCell ⟨p, 5, none⟩ (.int .i64 ((xs.length : Int) + 1)) = w2 at *
  have d1 : w2.cell? ⟨p, 1, none⟩ = some (.int .i64 (k : Int)) := B2.cellAt (i := 1) rfl
  have d5 : w2.cell? ⟨p, 5, none⟩ = some (.int .i64 ((xs.length : Int) + 1)) := B2.cellAt (i := 5) rfl
  have hs' : ¬ (xs.length : Int) + 1 < (k : Int) := by omega
  go_quiet (fail)
  go_wp2_with fail
  have B3 := B2.drewN nq
  have O3 := own_kept O2 (S := fun _ => False) ((Keeps.refl _ w2).drewN nq) (fun _ _ _ _ h => h)
  have K3 := K2.drewN nq
  clear d1 d5 B2 O2 K2
  generalize w2.drewN nq = w3 at *
  have d7 : w3.cell? ⟨p, 7, none⟩ = some (.int .i64 ((wst k xs : Nat) : Int)) := B3.cellAt (i := 7) rfl
  have f3 := B3.frozen
  have y3 : Calls Tryz.prog 120 #[.pointer (some ⟨p, 2, none⟩)] w3.drew fun e w'' => e = .returned (.int .i64 ((W k (xs ++ [y]) : Nat) : Int)) ∧ w'' = w3.drew := (yes_w (xs ++ [y]) h2 B3.drew).mono (fun e w'' h => ⟨h.1, h.2.symm⟩)
  obtain ⟨Wn, hWn⟩ : ∃ n : Nat, n = W k (xs ++ [y]) := ⟨_, rfl⟩
  rw [← hWn] at y3 hg
  have hWk : Wn ≤ k := by rw [hWn]; exact W_le _ _
  have HW := Lib.hid hWn
  clear hWn
  obtain ⟨wo, hwo⟩ : ∃ n : Nat, n = wst k xs := ⟨_, rfl⟩
  rw [← hwo] at d7
  have hwk : wo ≤ k := by rw [hwo]; exact wst_le _ _
  have HO := Lib.hid hwo
  clear hwo
  have g0 : (0 : Int) ≤ (Wn : Int) := by omega
  have g1 : (0 : Int) ≤ (wo : Int) := by omega
  have HG := Lib.hid hg
  clear hg
  by_cases hc : (Wn : Int) < (wo : Int)
  · skip
    refine wp_region_still_tail 10 (by kernel_rfl) (by kernel_rfl) ?_
    simp only [List.take_succ_cons, List.take_zero, List.drop_succ_cons, List.drop_zero]
    iterate 8 still_step
    still_call y3
    still_step
    refine wpStill_nil ?_
    clear y3
    have hmin : (min wo Wn : Nat) = Wn := by omega
    have HM := Lib.hid hmin
    clear hmin
    have B4 : Blk _ p 216 (Ring.mon (m : Int) (k : Int) (k : Int) ((min (xs ++ [y]).length k : Nat) : Int) (val (xs ++ [y]) % 2 ^ k) ((xs.length : Int) + 1) (.slice A bs.length c) ((Wn : Nat) : Int)) := (B3.set_ 7 (.int .i64 ((Wn : Nat) : Int))).drew
    have O4 := own_kept O3 (S := (· = p)) (((keep1 p w3).setCell ⟨p, 7, none⟩ (.inl rfl) (.int .i64 ((Wn : Nat) : Int))).drew) (fun g _ _ hg e => hnp (by rw [← e]; exact hg))
    have K4 := (K3.setCell ⟨p, 7, none⟩ (.inl (.inl rfl)) (.int .i64 ((Wn : Nat) : Int))).drew
    go_wp2_with fail
    clear d7 f3 B3 O3 K3
    generalize (w3.setCell ⟨p, 7, none⟩ (.int .i64 ((Wn : Nat) : Int))).drew = w4 at *
    have e0 : w4.cell? ⟨p, 0, none⟩ = some (.int .i64 (m : Int)) := B4.cellAt (i := 0) rfl
    have Y4 := Lib.hid (fun n => quiet_eq (n := n) (w := w4) (by have h := yes_w (xs ++ [y]) h2 (B4.drewN n); rw [← HW.out] at h; exact h))
    have hgi : (Wn : Int) < (m : Int) := by have := HG.out; omega
    go_quiet ((go_at_call 120; exact Y4.out _))
    go_wp2_with fail
    have B5 := B4.drewN nq
    have O5 := own_kept O4 (S := fun _ => False) ((Keeps.refl _ w4).drewN nq) (fun _ _ _ _ h => h)
    have K5 := K4.drewN nq
    clear e0 Y4 B4 O4 K4
    generalize w4.drewN nq = w5 at *
    have d5 : w5.cell? ⟨p, 5, none⟩ = some (.int .i64 ((xs.length : Int) + 1)) := B5.cellAt (i := 5) rfl
    have d6 : w5.cell? ⟨p, 6, none⟩ = some (.slice A bs.length c) := B5.cellAt (i := 6) rfl
    have d6a : (w5.alloc (.cells #[.int .i64 (xs.length : Int)] 3)).cell? ⟨p, 6, none⟩ = some (.slice A bs.length c) := (B5.alloc (.cells #[.int .i64 (xs.length : Int)] 3)).cellAt (i := 6) rfl
    have z5 := K5.size
    have b1 : bs.length + 1 ≤ maxLen := by unfold maxLen; omega
    have b2 : (bs.length + 1) * 8 ≤ 140737488355328 := by omega
    have b3 : 1 ≤ maxLen := by unfold maxLen; omega
    have hw : IntKind.i64.wrap (xs.length : Int) = (xs.length : Int) := IntWalk.i64_in _ (by omega)
    go_region_law (refine step_append_has rfl (.tmp 51) (.tmp 57) 23 rfl i0 _ 8 Tryz.underlying23 hi0 hz0 hz1 hz2 rfl (by decide) (by simp [Act.eval, Act.put]) (own_kept O5 ((Keeps.refl (fun _ => False) w5).alloc _) (fun _ _ _ _ h => h)).drew (some ⟨w5.heap.size, 0, none⟩) 1 1 [.int .i64 (xs.length : Int)] (by simp [Act.eval, Act.put]) (by have := Has.box w5 3 1 1 [.int .i64 (xs.length : Int)] rfl b3; exact this) (ints_one .i64 [(xs.length : Int)]) b1 b2 (Nat.zero_le _) ?_; intro v7 w7 own7 g7 at7; obtain ⟨A7, c7, hv7⟩ := own_shape own7; subst hv7; have G7 : (w5.alloc (.cells #[.int .i64 (xs.length : Int)] 3)).grownBy w7 (Value.slice A bs.length c).ownBlock := ⟨g7.os, g7.tape, g7.output, g7.size, g7.block⟩; have B7 := (B5.alloc (.cells #[.int .i64 (xs.length : Int)] 3)).grown G7 hnp; have b6 := B7.cellAt (i := 6) rfl; have fp := B7.frozen; have K7 : Keeps (Foot p A) w w7 := keeps_grown (K5.alloc _) G7 (fun g hg => .inl (.inr ((own_same A _ _ _ _).trans hg))); have z7 : (Value.slice A7 (bs.length + 1) c7).ownBlock = (Value.slice A bs.length c).ownBlock ∨ (Value.slice A7 (bs.length + 1) c7).ownBlock = some (w5.heap.size + 1) := (by have e : ((w5.alloc (.cells #[.int .i64 (xs.length : Int)] 3)).drew).heap.size = w5.heap.size + 1 := (by simp); rw [← e]; exact at7); have n7 := own_type_ne own7 B7 (by decide); clear g7 at7 G7)
    all_goals
      clear hw
      go_wp2_with fail
      go_ret
      have hl7 : (bs ++ [xs.length]).length = bs.length + 1 := by simp
      have hn7 : nums (bs ++ [xs.length]) = nums bs ++ [.int .i64 (xs.length : Int)] := by simp [nums]
      refine ⟨rfl, ⟨A7, c7, ⟨?_, ?_⟩, ?_⟩, K7.setCell _ (.inl (.inl rfl)) _⟩
      · unfold cs
        rw [wst_snoc, if_pos hs, ← HW.out, ← HO.out, HM.out, hl7]
        have := B7.set_ 6 (.slice A7 (bs.length + 1) c7)
        simpa [Ring.mon] using this
      · rw [hl7, hn7]
        exact own_kept own7 (S := (· = p)) ((keep1 p w7).setCell ⟨p, 6, none⟩ (.inl rfl) (.slice A7 (bs.length + 1) c7)) (fun g _ _ hg e => n7 (by rw [← e]; exact hg))
      · rintro b (rfl | hb)
        · exact .inl (.inl rfl)
        · rw [own_same _ 0 0 (bs.length + 1) c7] at hb
          rcases z7 with z | z
          · exact .inl (.inr (by rw [own_same A 0 0 bs.length c, ← z]; exact hb))
          · rw [z] at hb
            injection hb with hb
            exact .inr (by omega)
  · skip
    refine wp_region_still_tail 10 (by kernel_rfl) (by kernel_rfl) ?_
    simp only [List.take_succ_cons, List.take_zero, List.drop_succ_cons, List.drop_zero]
    iterate 8 still_step
    still_call y3
    still_step
    refine wpStill_nil ?_
    clear y3
    have hmin : (min wo Wn : Nat) = wo := by omega
    have HM := Lib.hid hmin
    clear hmin
    have B4 : Blk _ p 216 (Ring.mon (m : Int) (k : Int) (k : Int) ((min (xs ++ [y]).length k : Nat) : Int) (val (xs ++ [y]) % 2 ^ k) ((xs.length : Int) + 1) (.slice A bs.length c) ((wo : Nat) : Int)) := (B3.set_ 7 (.int .i64 ((wo : Nat) : Int))).drew
    have O4 := own_kept O3 (S := (· = p)) (((keep1 p w3).setCell ⟨p, 7, none⟩ (.inl rfl) (.int .i64 ((wo : Nat) : Int))).drew) (fun g _ _ hg e => hnp (by rw [← e]; exact hg))
    have K4 := (K3.setCell ⟨p, 7, none⟩ (.inl (.inl rfl)) (.int .i64 ((wo : Nat) : Int))).drew
    go_wp2_with fail
    clear d7 f3 B3 O3 K3
    generalize (w3.setCell ⟨p, 7, none⟩ (.int .i64 ((wo : Nat) : Int))).drew = w4 at *
    have e0 : w4.cell? ⟨p, 0, none⟩ = some (.int .i64 (m : Int)) := B4.cellAt (i := 0) rfl
    have Y4 := Lib.hid (fun n => quiet_eq (n := n) (w := w4) (by have h := yes_w (xs ++ [y]) h2 (B4.drewN n); rw [← HW.out] at h; exact h))
    have hgi : (Wn : Int) < (m : Int) := by have := HG.out; omega
    go_quiet ((go_at_call 120; exact Y4.out _))
    go_wp2_with fail
    have B5 := B4.drewN nq
    have O5 := own_kept O4 (S := fun _ => False) ((Keeps.refl _ w4).drewN nq) (fun _ _ _ _ h => h)
    have K5 := K4.drewN nq
    clear e0 Y4 B4 O4 K4
    generalize w4.drewN nq = w5 at *
    have d5 : w5.cell? ⟨p, 5, none⟩ = some (.int .i64 ((xs.length : Int) + 1)) := B5.cellAt (i := 5) rfl
    have d6 : w5.cell? ⟨p, 6, none⟩ = some (.slice A bs.length c) := B5.cellAt (i := 6) rfl
    have d6a : (w5.alloc (.cells #[.int .i64 (xs.length : Int)] 3)).cell? ⟨p, 6, none⟩ = some (.slice A bs.length c) := (B5.alloc (.cells #[.int .i64 (xs.length : Int)] 3)).cellAt (i := 6) rfl
    have z5 := K5.size
    have b1 : bs.length + 1 ≤ maxLen := by unfold maxLen; omega
    have b2 : (bs.length + 1) * 8 ≤ 140737488355328 := by omega
    have b3 : 1 ≤ maxLen := by unfold maxLen; omega
    have hw : IntKind.i64.wrap (xs.length : Int) = (xs.length : Int) := IntWalk.i64_in _ (by omega)
    go_region_law (refine step_append_has rfl (.tmp 51) (.tmp 57) 23 rfl i0 _ 8 Tryz.underlying23 hi0 hz0 hz1 hz2 rfl (by decide) (by simp [Act.eval, Act.put]) (own_kept O5 ((Keeps.refl (fun _ => False) w5).alloc _) (fun _ _ _ _ h => h)).drew (some ⟨w5.heap.size, 0, none⟩) 1 1 [.int .i64 (xs.length : Int)] (by simp [Act.eval, Act.put]) (by have := Has.box w5 3 1 1 [.int .i64 (xs.length : Int)] rfl b3; exact this) (ints_one .i64 [(xs.length : Int)]) b1 b2 (Nat.zero_le _) ?_; intro v7 w7 own7 g7 at7; obtain ⟨A7, c7, hv7⟩ := own_shape own7; subst hv7; have G7 : (w5.alloc (.cells #[.int .i64 (xs.length : Int)] 3)).grownBy w7 (Value.slice A bs.length c).ownBlock := ⟨g7.os, g7.tape, g7.output, g7.size, g7.block⟩; have B7 := (B5.alloc (.cells #[.int .i64 (xs.length : Int)] 3)).grown G7 hnp; have b6 := B7.cellAt (i := 6) rfl; have fp := B7.frozen; have K7 : Keeps (Foot p A) w w7 := keeps_grown (K5.alloc _) G7 (fun g hg => .inl (.inr ((own_same A _ _ _ _).trans hg))); have z7 : (Value.slice A7 (bs.length + 1) c7).ownBlock = (Value.slice A bs.length c).ownBlock ∨ (Value.slice A7 (bs.length + 1) c7).ownBlock = some (w5.heap.size + 1) := (by have e : ((w5.alloc (.cells #[.int .i64 (xs.length : Int)] 3)).drew).heap.size = w5.heap.size + 1 := (by simp); rw [← e]; exact at7); have n7 := own_type_ne own7 B7 (by decide); clear g7 at7 G7)
    all_goals
      clear hw
      go_wp2_with fail
      go_ret
      have hl7 : (bs ++ [xs.length]).length = bs.length + 1 := by simp
      have hn7 : nums (bs ++ [xs.length]) = nums bs ++ [.int .i64 (xs.length : Int)] := by simp [nums]
      refine ⟨rfl, ⟨A7, c7, ⟨?_, ?_⟩, ?_⟩, K7.setCell _ (.inl (.inl rfl)) _⟩
      · unfold cs
        rw [wst_snoc, if_pos hs, ← HW.out, ← HO.out, HM.out, hl7]
        have := B7.set_ 6 (.slice A7 (bs.length + 1) c7)
        simpa [Ring.mon] using this
      · rw [hl7, hn7]
        exact own_kept own7 (S := (· = p)) ((keep1 p w7).setCell ⟨p, 6, none⟩ (.inl rfl) (.slice A7 (bs.length + 1) c7)) (fun g _ _ hg e => n7 (by rw [← e]; exact hg))
      · rintro b (rfl | hb)
        · exact .inl (.inl rfl)
        · rw [own_same _ 0 0 (bs.length + 1) c7] at hb
          rcases z7 with z | z
          · exact .inl (.inr (by rw [own_same A 0 0 bs.length c, ← z]; exact hb))
          · rw [z] at hb
            injection hb with hb
            exact .inr (by omega)
end Mon
end Go.Proofs.YtbgiegecfapmlaaGreatDoor

namespace Go.Proofs.YtbgiegecfapmlaaGreatDoor
open Go.RowKit
set_option linter.unusedVariables false
set_option linter.unusedSimpArgs false
namespace Mon
open Win
/-- A Monitor at block p, holding the blocks F. -/
def Is (w : World) (p : Nat) (F : Nat → Prop) (m k : Nat) (xs : List Bool) (bs : List Nat) : Prop := ∃ A c, At w p A c m k xs bs ∧ F = Foot p A
section
variable {w w' : World} {p m k : Nat} {F S : Nat → Prop} {xs : List Bool} {bs : List Nat}
theorem Is.kept (h : Is w p F m k xs bs) (kp : Keeps S w w') (hS : ∀ b, F b → ¬ S b) : Is w' p F m k xs bs := by
  obtain ⟨A, c, ha, rfl⟩ := h
  exact ⟨A, c, ha.kept kp hS, rfl⟩
theorem Is.stay (h : Is w p F m k xs bs) (kp : Keeps (fun _ => False) w w') : Is w' p F m k xs bs := h.kept kp fun _ _ h => h
theorem Is.lt (h : Is w p F m k xs bs) : ∀ b, F b → b < w.heap.size := by
  obtain ⟨A, c, ha, rfl⟩ := h
  exact ha.lt
theorem Is.drewN (h : Is w p F m k xs bs) (n : Nat) : Is (w.drewN n) p F m k xs bs := h.stay ((Keeps.refl _ w).drewN n)
end
theorem new_is (m k : Nat) (w : World) (h1 : 1 ≤ k) (h2 : k ≤ 64) (hm : m ≤ k) :
    Calls Tryz.prog 72 #[.int .i64 (m : Int), .int .i64 (k : Int)] w fun e w' => ∃ p F, e = .returned (.tuple #[.pointer (some ⟨p, 0, none⟩), .int .i64 0]) ∧ Is w' p F m k [] [] ∧ (∀ b, F b → w.heap.size ≤ b) ∧ Keeps (fun _ => False) w w' :=
  (new_any m k w h1 h2 hm).mono fun e w' ⟨p, he, hp, ha, kp⟩ => ⟨p, Foot p none, he, ⟨none, 0, ha, rfl⟩, (fun b hb => by
    rcases hb with rfl | hb
    · exact hp
    · cases hb), kp⟩
/-- What is told of the next one. -/
def ok (m k : Nat) (xs : List Bool) (y : Bool) : Bool := !bad m k (xs ++ [y])
theorem add_is {p m k : Nat} {F : Nat → Prop} {xs : List Bool} {bs : List Nat} {w : World} (y : Bool) (h : Is w p F m k xs bs) (h1 : 1 ≤ k) (h2 : k ≤ 64) (hm : m ≤ k) (hl : xs.length ≤ 300) (hbl : bs.length ≤ 300) :
    Calls Tryz.prog 82 #[.pointer (some ⟨p, 0, none⟩), .bool y] w fun e w' => e = .returned (.bool (!bad m k (xs ++ [y]))) ∧ (∃ F', Is w' p F' m k (xs ++ [y]) (bs ++ if bad m k (xs ++ [y]) = true then [xs.length] else []) ∧ ∀ b, F' b → F b ∨ w.heap.size ≤ b) ∧ Keeps F w w' := by
  obtain ⟨A, c, ha, rfl⟩ := h
  by_cases hs : xs.length + 1 < k
  · have hb : bad m k (xs ++ [y]) = false := by unfold bad; simp; omega
    rw [hb]
    refine (add_short p A c m k xs bs y w ha h1 h2 hm (by omega) hs).mono ?_
    rintro e w' ⟨he, ha', kp⟩
    exact ⟨he, ⟨_, ⟨A, c, by simpa using ha', rfl⟩, fun b hb => .inl hb⟩, kp⟩
  · by_cases hg : m ≤ W k (xs ++ [y])
    · have hb : bad m k (xs ++ [y]) = false := by unfold bad; simp; omega
      rw [hb]
      refine (add_good p A c m k xs bs y w ha h1 h2 hm (by omega) (by omega) hg).mono ?_
      rintro e w' ⟨he, ha', kp⟩
      exact ⟨he, ⟨_, ⟨A, c, by simpa using ha', rfl⟩, fun b hb => .inl hb⟩, kp⟩
    · have hb : bad m k (xs ++ [y]) = true := by unfold bad; simp; omega
      rw [hb]
      refine (add_bad p A c m k xs bs y w ha h1 h2 hm (by omega) (by omega) (by omega) (by omega)).mono ?_
      rintro e w' ⟨he, ⟨A', c', ha', hf⟩, kp⟩
      exact ⟨he, ⟨_, ⟨A', c', by simpa using ha', rfl⟩, hf⟩, kp⟩
set_option maxHeartbeats 1000000 in
theorem clone_any (A : Option Addr) (c : Nat) (bs : List Nat) (w : World) (hl : bs.length ≤ 1000) (h : Has w 3 1 (.slice A bs.length c) bs.length (nums bs)) :
    Calls Tryz.prog 41 #[.slice A bs.length c] w fun e w' => ∃ A' c', e = .returned (.slice A' bs.length c') ∧ Has w' 3 1 (.slice A' bs.length c') bs.length (nums bs) ∧ Keeps (fun _ => False) w w' := by
  obtain ⟨i0, hi0, hz0, hz1, hz2⟩ := info_parts infoI
  have hnil := fun (W : World) (a : Option Addr) (n c n' c' : Nat) => Lib.run_eql_slice_nil (P := Tryz.prog) W 23 3 a n c n' c' Tryz.underlying23
  have K := Keeps.refl (fun _ => False) w
  rcases h.2 with ⟨hv, h0⟩ | ⟨g, off, cap, cur, hv, _⟩
  · injection hv with hA hn hc
    subst hA hc
    rw [h0] at h
    have hx : bs = [] := List.eq_nil_of_length_eq_zero h0
    subst hx
    clear h0 hn
    go_enter Tryz.func41, Tryz.ntmps41
    go_wp2_with fail
    go_ret
    exact ⟨none, 0, rfl, h, K⟩
  · injection hv with hA hn hc
    subst hA hc
    clear hn
    go_enter Tryz.func41, Tryz.ntmps41
    go_wp2_with (at_builtin; refine wpList_append_has rfl (.tmp 5) (.tmp 6) 23 rfl i0 _ 8 Tryz.underlying23 hi0 hz0 hz1 hz2 rfl (by omega) rfl (own_empty w w.heap.size 3 1 (Nat.le_refl _)) (some ⟨g, off, none⟩) bs.length c (nums bs) rfl (h.kept ((Keeps.refl (fun _ => False) _).alloc _) (fun _ _ _ _ h => h)) (nums_one _) (by unfold maxLen; omega) (by omega) (by simp) ?_; intro v1 w1 own1 g1 at1)
    have K1 : Keeps (fun _ => False) w w1 := keeps_grown ((Keeps.refl _ _).alloc _) g1 (fun g h => .inr (Nat.le_of_eq (slice_block h)))
    simp only [Nat.zero_add, List.nil_append] at own1
    obtain ⟨A2, c2, hv2⟩ := own_shape own1
    subst hv2
    have HH := Has.of_own own1
    clear own1 g1 at1
    go_wp2_with fail
    go_ret
    exact ⟨A2, c2, rfl, HH, K1⟩
section
variable {p m k : Nat} {F : Nat → Prop} {xs : List Bool} {bs : List Nat} {w : World}
theorem broken_is (h : Is w p F m k xs bs) (hl : bs.length ≤ 1000) :
    Calls Tryz.prog 83 #[.pointer (some ⟨p, 0, none⟩)] w fun e w' => ∃ A' c', e = .returned (.slice A' bs.length c') ∧ Has w' 3 1 (.slice A' bs.length c') bs.length (nums bs) ∧ Keeps (fun _ => False) w w' := by
  obtain ⟨A, c, ha, rfl⟩ := h
  have c6 := ha.Bl.cellAt (i := 6) rfl
  have hh := Has.of_own ha.B
  clear ha
  go_enter Tryz.func83, Tryz.ntmps83
  go_wp2_with fail
  refine (clone_any A c bs _ hl hh).mono ?_
  rintro e w1 ⟨A', c', rfl, H1, k1⟩
  go_wp2_with fail
  go_ret
  exact ⟨A', c', rfl, H1, k1⟩
end
end Mon
end Go.Proofs.YtbgiegecfapmlaaGreatDoor
