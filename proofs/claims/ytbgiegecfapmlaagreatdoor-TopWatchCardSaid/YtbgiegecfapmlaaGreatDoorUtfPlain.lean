/- When a string is valid UTF-8, as numbers; conditions: none. -/
import Derived.Test.YtbgiegecfapmlaaGreatDoorWord
namespace Go.Proofs.YtbgiegecfapmlaaGreatDoor
open Go.RowKit
set_option linter.unusedVariables false
namespace Utf
open Go.Lib (firstT accLo accHi)
def bt (s : ByteArray) (i : Nat) : Nat := (s.get! i).toNat
theorem get_of (s : ByteArray) (k : Nat) (h : k < s.size) : s.get! k = s[k]'h := by
  cases s with
  | mk d => exact getElem!_pos d k h
theorem bt_eq (s : ByteArray) (k : Nat) (h : k < s.size) : bt s k = (s[k]'h).toNat := by unfold bt; rw [get_of s k h]
theorem bt_lt (s : ByteArray) (k : Nat) : bt s k < 256 := UInt8.toNat_lt _
def cut (s : ByteArray) (k : Nat) : ByteArray := s.extract k s.size
theorem cut_size (s : ByteArray) (k : Nat) : (cut s k).size = s.size - k := by unfold cut; rw [ByteArray.size_extract]; omega
theorem cut_cut (s : ByteArray) (a b : Nat) : cut (cut s a) b = cut s (a + b) := by
  unfold cut
  rw [ByteArray.extract_extract, ByteArray.size_extract]
  congr 1
  omega
theorem cut_bt (s : ByteArray) (a i : Nat) (h : a + i < s.size) : bt (cut s a) i = bt s (a + i) := by
  have h1 : i < (cut s a).size := by rw [cut_size]; omega
  rw [bt_eq _ _ h1, bt_eq _ _ h]
  exact congrArg UInt8.toNat (ByteArray.getElem_extract (b := s) (start := a) (stop := s.size) h1)
def lo (s : ByteArray) : Nat := accLo (firstT (bt s 0) / 16)
def hi2 (s : ByteArray) : Nat := accHi (firstT (bt s 0) / 16)
/-- How many bytes the first rune takes; 0: it is none. -/
def width (s : ByteArray) : Nat :=
  if bt s 0 < 128 then 1
  else if firstT (bt s 0) % 8 = 2 then if s.size < 2 ∨ bt s 1 < lo s ∨ hi2 s < bt s 1 then 0 else 2
  else if firstT (bt s 0) % 8 = 3 then if s.size < 3 ∨ bt s 1 < lo s ∨ hi2 s < bt s 1 ∨ bt s 2 < 128 ∨ 191 < bt s 2 then 0 else 3
  else if firstT (bt s 0) % 8 = 4 then if s.size < 4 ∨ bt s 1 < lo s ∨ hi2 s < bt s 1 ∨ bt s 2 < 128 ∨ 191 < bt s 2 ∨ bt s 3 < 128 ∨ 191 < bt s 3 then 0 else 4
  else 0
def V : Nat → ByteArray → Bool
  | 0, _ => true
  | f + 1, s => if s.size = 0 then true else if width s = 0 then false else V f (cut s (width s))
theorem V_fuel : ∀ f (s : ByteArray), s.size ≤ f → V f s = V s.size s := by
  intro f
  induction f using Nat.strongRecOn with
  | ind f ih =>
    intro s hs
    cases f with
    | zero => rw [show s.size = 0 by omega]
    | succ f =>
      by_cases h0 : s.size = 0
      · rw [h0]; simp [V, h0]
      · obtain ⟨n, hn⟩ : ∃ n, s.size = n + 1 := ⟨s.size - 1, by omega⟩
        rw [hn]
        simp only [V]
        rw [if_neg h0, if_neg h0]
        by_cases hw : width s = 0
        · rw [if_pos hw, if_pos hw]
        · rw [if_neg hw, if_neg hw, ih f (by omega) _ (by rw [cut_size]; omega)]
          by_cases hnf : n = f
          · subst hnf; rw [ih n (by omega) _ (by rw [cut_size]; omega)]
          · rw [ih n (by omega) _ (by rw [cut_size]; omega)]
def valid (s : ByteArray) : Bool := V s.size s
theorem valid_nil (s : ByteArray) (h : s.size = 0) : valid s = true := by unfold valid; rw [h]; rfl
theorem valid_bad (s : ByteArray) (h : 0 < s.size) (hw : width s = 0) : valid s = false := by
  obtain ⟨n, hn⟩ : ∃ n, s.size = n + 1 := ⟨s.size - 1, by omega⟩
  unfold valid
  rw [hn]
  simp only [V]
  rw [if_neg (by omega), if_pos hw]
theorem valid_go (s : ByteArray) (h : 0 < s.size) {k : Nat} (hw : width s = k) (hk : k ≠ 0) : valid s = valid (cut s k) := by
  obtain ⟨n, hn⟩ : ∃ n, s.size = n + 1 := ⟨s.size - 1, by omega⟩
  unfold valid
  rw [hn]
  simp only [V]
  rw [if_neg (by omega), if_neg (by rw [hw]; exact hk), hw]
  exact V_fuel n _ (by rw [cut_size]; omega)
theorem width_ascii (s : ByteArray) (h : bt s 0 < 128) : width s = 1 := by unfold width; rw [if_pos h]
theorem valid_skip (s : ByteArray) : ∀ n, n ≤ s.size → (∀ i, i < n → bt s i < 128) → valid s = valid (cut s n) := by
  intro n
  induction n with
  | zero => intro _ _; unfold cut; rw [show s.extract 0 s.size = s from by simp]
  | succ n ih =>
    intro h hb
    rw [ih (by omega) (fun i hi => hb i (by omega))]
    have h0 : 0 < (cut s n).size := by rw [cut_size]; omega
    have hb0 : bt (cut s n) 0 < 128 := by rw [cut_bt s n 0 (by omega)]; exact hb n (by omega)
    rw [valid_go (cut s n) h0 (width_ascii _ hb0) (by omega), cut_cut]
/-- Eight bytes as one number. -/
def wordX (s : ByteArray) : Nat := wordN (bt s 0) (bt s 1) (bt s 2) (bt s 3) (bt s 4) (bt s 5) (bt s 6) (bt s 7)
theorem wordX_lt (s : ByteArray) : wordX s < 18446744073709551616 := word_lt _ _ _ _ _ _ _ _ (bt_lt _ _) (bt_lt _ _) (bt_lt _ _) (bt_lt _ _) (bt_lt _ _) (bt_lt _ _) (bt_lt _ _) (bt_lt _ _)
theorem wordX_hi (s : ByteArray) (h : wordX s &&& hi = 0) : ∀ i, i < 8 → bt s i < 128 := by
  obtain ⟨a0, a1, a2, a3, a4, a5, a6, a7⟩ := word_hi _ _ _ _ _ _ _ _ (bt_lt _ _) (bt_lt _ _) (bt_lt _ _) (bt_lt _ _) (bt_lt _ _) (bt_lt _ _) (bt_lt _ _) (bt_lt _ _) h
  intro i hi
  rcases (show i = 0 ∨ i = 1 ∨ i = 2 ∨ i = 3 ∨ i = 4 ∨ i = 5 ∨ i = 6 ∨ i = 7 by omega) with rfl | rfl | rfl | rfl | rfl | rfl | rfl | rfl
  · exact a0
  · exact a1
  · exact a2
  · exact a3
  · exact a4
  · exact a5
  · exact a6
  · exact a7
/-- Eight, sixteen, thirty-two bytes of no upper bit: they are left out. -/
theorem skip8 (s : ByteArray) (h : 8 ≤ s.size) (hx : wordX s &&& hi = 0) : valid s = valid (cut s 8) := valid_skip s 8 h (wordX_hi s hx)
theorem or_zero (a b c : Nat) (h : (a ||| b) &&& c = 0) : a &&& c = 0 ∧ b &&& c = 0 := by
  rw [Nat.and_or_distrib_right] at h
  exact Nat.or_eq_zero_iff.1 h
theorem skip16 (s : ByteArray) (h : 16 ≤ s.size) (hx : (wordX s ||| wordX (cut s 8)) &&& hi = 0) : valid s = valid (cut s 16) := by
  obtain ⟨h1, h2⟩ := or_zero _ _ _ hx
  rw [skip8 s (by omega) h1, skip8 (cut s 8) (by rw [cut_size]; omega) h2, cut_cut]
theorem skip32 (s : ByteArray) (h : 32 ≤ s.size) (hx : ((wordX s ||| wordX (cut s 8)) ||| (wordX (cut s 16) ||| wordX (cut s 24))) &&& hi = 0) : valid s = valid (cut s 32) := by
  obtain ⟨h1, h2⟩ := or_zero _ _ _ hx
  rw [skip16 s (by omega) h1]
  have e : (cut s 24) = cut (cut s 16) 8 := by rw [cut_cut]
  rw [e] at h2
  rw [skip16 (cut s 16) (by rw [cut_size]; omega) h2, cut_cut]
theorem word_is (s : ByteArray) (w : World) (h : 8 ≤ s.size) :
    Calls Tryz.prog 140 #[.string s] w fun e w' => e = .returned (.int .u64 (wordX s : Int)) ∧ Drawn w w' := by
  refine (word_exact s w h).mono ?_
  rintro e w' ⟨rfl, D⟩
  refine ⟨?_, D⟩
  unfold wordX
  rw [bt_eq s 0 (by omega), bt_eq s 1 (by omega), bt_eq s 2 (by omega), bt_eq s 3 (by omega), bt_eq s 4 (by omega), bt_eq s 5 (by omega), bt_eq s 6 (by omega), bt_eq s 7 (by omega)]
theorem or_nat (a b : Nat) (ha : a < 18446744073709551616) (hb : b < 18446744073709551616) : bits .or .u64 (a : Int) (b : Int) = ((a ||| b : Nat) : Int) ∧ a ||| b < 18446744073709551616 :=
  ⟨u64_or_nat a b ha hb, Nat.or_lt_two_pow (n := 64) ha hb⟩
theorem and_hi (a : Nat) (ha : a < 18446744073709551616) : bits .and .u64 (a : Int) 9259542123273814144 = ((a &&& hi : Nat) : Int) := u64_and_nat a hi ha (by decide)
end Utf
end Go.Proofs.YtbgiegecfapmlaaGreatDoor
