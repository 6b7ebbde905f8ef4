/- What every law of chapter 4 asks first; two handles compared; conditions: none. -/
import Derived.Test.YtpfhogbkbodfjabArSIs
namespace Go.Proofs.Ytpfhogbkbodfjab
open Go.RowKit
set_option linter.unusedVariables false
set_option linter.unusedSimpArgs false
namespace Ar
theorem handle_eq (a b : Int) (W : World) : (binOp .eql 42 (.agg #[.int .i64 a, .int .i64 b]) (.agg #[.int .i64 a, .int .i64 b])).run Try.prog W = .ok (.bool true) W := by
  rw [run_eql_struct, show (10000 : Nat) = 9999 + 1 from rfl, run_equalIn_agg W 9999 42 _ _ (by kernel_rfl) (by kernel_rfl)]
  simp only [Program.fieldsOf, Try.underlying42]
  go_simp
theorem handle_ne (a b : Int) (W : World) : (binOp .neq 42 (.agg #[.int .i64 a, .int .i64 b]) (.agg #[.int .i64 a, .int .i64 b])).run Try.prog W = .ok (.bool false) W := by
  rw [run_neq_struct, show (10000 : Nat) = 9999 + 1 from rfl, run_equalIn_agg W 9999 42 _ _ (by kernel_rfl) (by kernel_rfl)]
  simp only [Program.fieldsOf, Try.underlying42]
  go_simp
end Ar
namespace ArS
open Ar
set_option maxRecDepth 100000 in
set_option maxHeartbeats 2000000 in
theorem awake_ok (w : World) : Calls Try.prog 27 #[] w fun e w' => e = .returned (.bool true) ∧ Below w.heap.size w w' := by
  have heq := fun W => handle_eq 0 2 W
  go_enter Try.func27, Try.ntmps27
  go_wp2_with fail
  refine (new_m 4 w _ (Below.refl _ _) (by omega) (by omega)).mono ?_
  rintro e w1 ⟨p, F, rfl, M1, _⟩
  go_wp2_with fail
  refine (put_new_m (n := 0) ⟨#[97]⟩ _ M1 rfl (by omega) (by omega)).mono ?_
  rintro e w2 ⟨rfl, ⟨F2, M2⟩, _⟩
  clear M1
  go_wp2_with fail
  have M3 := M2.keep ((Keeps.refl (fun _ => False) w2).alloc (.cells #[.int .i64 0, .int .i64 1] 42))
  clear M2
  refine (free_ok_m 0 ⟨⟨#[97]⟩, 1, true⟩ _ M3 (by omega) (by omega) (by simp) (by simp) rfl rfl).mono ?_
  rintro e w4 ⟨rfl, ⟨F4, M4⟩, _⟩
  clear M3
  go_wp2_with fail
  refine (put_free_m (fr := []) ⟨#[98]⟩ 0 ⟨⟨#[]⟩, 1, false⟩ _ M4 rfl (by decide) (by simp) (by simp)).mono ?_
  rintro e w5 ⟨rfl, M5, _⟩
  clear M4
  go_wp2_with fail
  have M6 := M5.keep ((Keeps.refl (fun _ => False) w5).alloc (.cells #[.int .i64 0, .int .i64 2] 42))
  have Q := Blk.new w5 42 [.int .i64 0, .int .i64 2]
  clear M5
  refine (get_ok_m 0 ⟨⟨#[98]⟩, 2, true⟩ _ M6 (by omega) (by omega) (by simp) rfl rfl).mono ?_
  rintro e w7 ⟨rfl, M7, k7⟩
  have Q7 := Q.kept k7 (fun h => h)
  have q0 := Q7.cellAt (i := 0) rfl
  have q1 := Q7.cellAt (i := 1) rfl
  go_wp2_with fail
  go_ret
  exact ⟨rfl, M7.B⟩
end ArS
end Go.Proofs.Ytpfhogbkbodfjab
