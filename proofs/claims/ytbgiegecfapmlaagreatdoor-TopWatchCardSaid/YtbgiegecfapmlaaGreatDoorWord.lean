/- unicode/utf8's word: eight bytes at once; conditions: the string has eight. -/
import Derived.Test.YtbgiegecfapmlaaGreatDoorTop0
import Derived.Laws.BitsAllLaws
namespace Go.Proofs.YtbgiegecfapmlaaGreatDoor
open Go.RowKit
set_option linter.unusedVariables false
set_option linter.unusedSimpArgs false
namespace Utf
theorem wrapu (x : Nat) (h : x < 18446744073709551616) : IntKind.u64.wrap (x : Int) = (x : Int) := by
  simp [IntKind.wrap, IntKind.bits, IntKind.signed]; omega
theorem and_byte (r q c m : Nat) (hr : r < 256) (hc : c < 256) : (r + 256 * q) &&& (c + 256 * m) = (r &&& c) + 256 * (q &&& m) := by
  apply Nat.eq_of_testBit_eq
  intro i
  have hrc : (r &&& c) < 2 ^ 8 := Nat.and_lt_two_pow _ (by omega)
  have e1 : r + 256 * q = 2 ^ 8 * q + r := by omega
  have e2 : c + 256 * m = 2 ^ 8 * m + c := by omega
  have e3 : (r &&& c) + 256 * (q &&& m) = 2 ^ 8 * (q &&& m) + (r &&& c) := by omega
  rw [e1, e2, e3, Nat.testBit_and, Nat.testBit_two_pow_mul_add _ (by omega), Nat.testBit_two_pow_mul_add _ (by omega), Nat.testBit_two_pow_mul_add _ hrc]
  split <;> simp [Nat.testBit_and]
theorem and128 : ∀ b, b < 256 → (b &&& 128) = 0 → b < 128 := by decide +kernel
/-- A part of the word more. -/
theorem or_step (k : Nat) (x b : Nat) (hx : x < 2 ^ k) (hb : b * 2 ^ k + x < 18446744073709551616) : bits .or .u64 (x : Int) ((b * 2 ^ k : Nat) : Int) = ((x + b * 2 ^ k : Nat) : Int) := by
  rw [u64_or_nat _ _ (by omega) (by omega), Nat.or_comm, nat_join k _ _ (by simp) hx, Nat.add_comm]
def wordN (b0 b1 b2 b3 b4 b5 b6 b7 : Nat) : Nat := b0 + 256 * (b1 + 256 * (b2 + 256 * (b3 + 256 * (b4 + 256 * (b5 + 256 * (b6 + 256 * b7))))))
/-- The upper bits of the eight bytes of a word. -/
abbrev hi : Nat := 9259542123273814144
theorem hi_eq : hi = wordN 128 128 128 128 128 128 128 128 := by decide
theorem word_hi (b0 b1 b2 b3 b4 b5 b6 b7 : Nat) (h0 : b0 < 256) (h1 : b1 < 256) (h2 : b2 < 256) (h3 : b3 < 256) (h4 : b4 < 256) (h5 : b5 < 256) (h6 : b6 < 256) (h7 : b7 < 256) (h : wordN b0 b1 b2 b3 b4 b5 b6 b7 &&& hi = 0) :
    b0 < 128 ∧ b1 < 128 ∧ b2 < 128 ∧ b3 < 128 ∧ b4 < 128 ∧ b5 < 128 ∧ b6 < 128 ∧ b7 < 128 := by
  rw [hi_eq] at h
  unfold wordN at h
  rw [and_byte _ _ _ _ h0 (by omega), and_byte _ _ _ _ h1 (by omega), and_byte _ _ _ _ h2 (by omega), and_byte _ _ _ _ h3 (by omega), and_byte _ _ _ _ h4 (by omega), and_byte _ _ _ _ h5 (by omega), and_byte _ _ _ _ h6 (by omega)] at h
  have z : ∀ a b : Nat, a + 256 * b = 0 → a = 0 ∧ b = 0 := by omega
  obtain ⟨c0, h⟩ := z _ _ h
  obtain ⟨c1, h⟩ := z _ _ h
  obtain ⟨c2, h⟩ := z _ _ h
  obtain ⟨c3, h⟩ := z _ _ h
  obtain ⟨c4, h⟩ := z _ _ h
  obtain ⟨c5, h⟩ := z _ _ h
  obtain ⟨c6, h⟩ := z _ _ h
  exact ⟨and128 _ h0 c0, and128 _ h1 c1, and128 _ h2 c2, and128 _ h3 c3, and128 _ h4 c4, and128 _ h5 c5, and128 _ h6 c6, and128 _ h7 h⟩
theorem word_lt (b0 b1 b2 b3 b4 b5 b6 b7 : Nat) (h0 : b0 < 256) (h1 : b1 < 256) (h2 : b2 < 256) (h3 : b3 < 256) (h4 : b4 < 256) (h5 : b5 < 256) (h6 : b6 < 256) (h7 : b7 < 256) : wordN b0 b1 b2 b3 b4 b5 b6 b7 < 18446744073709551616 := by
  unfold wordN
  omega
theorem word_eq (b0 b1 b2 b3 b4 b5 b6 b7 : Nat) (h0 : b0 < 256) (h1 : b1 < 256) (h2 : b2 < 256) (h3 : b3 < 256) (h4 : b4 < 256) (h5 : b5 < 256) (h6 : b6 < 256) (h7 : b7 < 256) :
    bits .or .u64 (bits .or .u64 (bits .or .u64 (bits .or .u64 (bits .or .u64 (bits .or .u64 (bits .or .u64 (IntKind.u64.wrap (b0 : Int)) (IntKind.u64.wrap (IntKind.u64.wrap (b1 : Int) * 256))) (IntKind.u64.wrap (IntKind.u64.wrap (b2 : Int) * 65536))) (IntKind.u64.wrap (IntKind.u64.wrap (b3 : Int) * 16777216))) (IntKind.u64.wrap (IntKind.u64.wrap (b4 : Int) * 4294967296))) (IntKind.u64.wrap (IntKind.u64.wrap (b5 : Int) * 1099511627776))) (IntKind.u64.wrap (IntKind.u64.wrap (b6 : Int) * 281474976710656))) (IntKind.u64.wrap (IntKind.u64.wrap (b7 : Int) * 72057594037927936)) = ((wordN b0 b1 b2 b3 b4 b5 b6 b7 : Nat) : Int) := by
  have e1 : IntKind.u64.wrap (IntKind.u64.wrap (b1 : Int) * 256) = ((b1 * 2 ^ 8 : Nat) : Int) := by
    rw [wrapu b1 (by omega), show ((b1 : Int) * 256) = ((b1 * 256 : Nat) : Int) by omega, wrapu _ (by omega)]
  have e2 : IntKind.u64.wrap (IntKind.u64.wrap (b2 : Int) * 65536) = ((b2 * 2 ^ 16 : Nat) : Int) := by
    rw [wrapu b2 (by omega), show ((b2 : Int) * 65536) = ((b2 * 65536 : Nat) : Int) by omega, wrapu _ (by omega)]
  have e3 : IntKind.u64.wrap (IntKind.u64.wrap (b3 : Int) * 16777216) = ((b3 * 2 ^ 24 : Nat) : Int) := by
    rw [wrapu b3 (by omega), show ((b3 : Int) * 16777216) = ((b3 * 16777216 : Nat) : Int) by omega, wrapu _ (by omega)]
  have e4 : IntKind.u64.wrap (IntKind.u64.wrap (b4 : Int) * 4294967296) = ((b4 * 2 ^ 32 : Nat) : Int) := by
    rw [wrapu b4 (by omega), show ((b4 : Int) * 4294967296) = ((b4 * 4294967296 : Nat) : Int) by omega, wrapu _ (by omega)]
  have e5 : IntKind.u64.wrap (IntKind.u64.wrap (b5 : Int) * 1099511627776) = ((b5 * 2 ^ 40 : Nat) : Int) := by
    rw [wrapu b5 (by omega), show ((b5 : Int) * 1099511627776) = ((b5 * 1099511627776 : Nat) : Int) by omega, wrapu _ (by omega)]
  have e6 : IntKind.u64.wrap (IntKind.u64.wrap (b6 : Int) * 281474976710656) = ((b6 * 2 ^ 48 : Nat) : Int) := by
    rw [wrapu b6 (by omega), show ((b6 : Int) * 281474976710656) = ((b6 * 281474976710656 : Nat) : Int) by omega, wrapu _ (by omega)]
  have e7 : IntKind.u64.wrap (IntKind.u64.wrap (b7 : Int) * 72057594037927936) = ((b7 * 2 ^ 56 : Nat) : Int) := by
    rw [wrapu b7 (by omega), show ((b7 : Int) * 72057594037927936) = ((b7 * 72057594037927936 : Nat) : Int) by omega, wrapu _ (by omega)]
  rw [wrapu b0 (by omega), e1, e2, e3, e4, e5, e6, e7]
  rw [or_step 8 (b0) b1 (by omega) (by omega)]
  rw [or_step 16 (b0 + b1 * 2 ^ 8) b2 (by omega) (by omega)]
  rw [or_step 24 (b0 + b1 * 2 ^ 8 + b2 * 2 ^ 16) b3 (by omega) (by omega)]
  rw [or_step 32 (b0 + b1 * 2 ^ 8 + b2 * 2 ^ 16 + b3 * 2 ^ 24) b4 (by omega) (by omega)]
  rw [or_step 40 (b0 + b1 * 2 ^ 8 + b2 * 2 ^ 16 + b3 * 2 ^ 24 + b4 * 2 ^ 32) b5 (by omega) (by omega)]
  rw [or_step 48 (b0 + b1 * 2 ^ 8 + b2 * 2 ^ 16 + b3 * 2 ^ 24 + b4 * 2 ^ 32 + b5 * 2 ^ 40) b6 (by omega) (by omega)]
  rw [or_step 56 (b0 + b1 * 2 ^ 8 + b2 * 2 ^ 16 + b3 * 2 ^ 24 + b4 * 2 ^ 32 + b5 * 2 ^ 40 + b6 * 2 ^ 48) b7 (by omega) (by omega)]
  congr 1
  unfold wordN
  omega
set_option maxRecDepth 100000 in
set_option maxHeartbeats 1000000 in
theorem word_exact (s : ByteArray) (w : World) (h : 8 ≤ s.size) :
    Calls Tryz.prog 140 #[.string s] w fun e w' => e = .returned (.int .u64 ((wordN (s[0]'(by omega)).toNat (s[1]'(by omega)).toNat (s[2]'(by omega)).toNat (s[3]'(by omega)).toNat (s[4]'(by omega)).toNat (s[5]'(by omega)).toNat (s[6]'(by omega)).toNat (s[7]'(by omega)).toNat : Nat) : Int)) ∧ Drawn w w' := by
  have h0 : 0 < s.size := by omega
  have hm0 : (0 : Int) < (s.size : Int) := by omega
  have h1 : 1 < s.size := by omega
  have hm1 : (1 : Int) < (s.size : Int) := by omega
  have h2 : 2 < s.size := by omega
  have hm2 : (2 : Int) < (s.size : Int) := by omega
  have h3 : 3 < s.size := by omega
  have hm3 : (3 : Int) < (s.size : Int) := by omega
  have h4 : 4 < s.size := by omega
  have hm4 : (4 : Int) < (s.size : Int) := by omega
  have h5 : 5 < s.size := by omega
  have hm5 : (5 : Int) < (s.size : Int) := by omega
  have h6 : 6 < s.size := by omega
  have hm6 : (6 : Int) < (s.size : Int) := by omega
  have h7 : 7 < s.size := by omega
  have hm7 : (7 : Int) < (s.size : Int) := by omega
  have D := Drawn.refl w
  go_enter Tryz.func140, Tryz.ntmps140
  go_wp2_with fail
  go_quiet (fail)
  go_wp2_with fail
  go_ret
  exact ⟨congrArg (fun z => Ending.returned (.int .u64 z)) (word_eq _ _ _ _ _ _ _ _ (UInt8.toNat_lt _) (UInt8.toNat_lt _) (UInt8.toNat_lt _) (UInt8.toNat_lt _) (UInt8.toNat_lt _) (UInt8.toNat_lt _) (UInt8.toNat_lt _) (UInt8.toNat_lt _)), D.drewN _⟩
end Utf
end Go.Proofs.YtbgiegecfapmlaaGreatDoor
