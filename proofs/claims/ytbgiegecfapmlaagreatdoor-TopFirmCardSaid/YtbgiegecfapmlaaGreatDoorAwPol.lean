/- package policy at the way Robust; conditions: none. -/
import Derived.Test.YtbgiegecfapmlaaGreatDoorAwLines
namespace Go.Proofs.YtbgiegecfapmlaaGreatDoor
open Go.RowKit
set_option linter.unusedVariables false
set_option linter.unusedSimpArgs false
namespace Aw
/-- The way Robust, as a Policy. -/
def PR : Value := .iface 71 (.agg #[])
theorem ta_dover (W : World) : (Instr.typeAssert (.iface 71 (.agg #[])) 31 75 true).run Tryz.prog W = .ok (.tuple #[.agg #[.int .i64 0, .int .i64 0], .bool false]) W := by
  kernel_rfl
theorem ta_robust (W : World) : (Instr.typeAssert (.iface 71 (.agg #[])) 31 71 true).run Tryz.prog W = .ok (.tuple #[.agg #[], .bool true]) W := by
  kernel_rfl
theorem ta_skip (W : World) : (Instr.typeAssert (.iface 71 (.agg #[])) 31 198 true).run Tryz.prog W = .ok (.tuple #[.agg #[.slice none 0 0, .bool false], .bool false]) W := by
  kernel_rfl
theorem ta_elastic (W : World) : (Instr.typeAssert (.iface 71 (.agg #[])) 31 181 true).run Tryz.prog W = .ok (.tuple #[.agg #[.pointer none], .bool false]) W := by
  kernel_rfl
set_option maxRecDepth 100000 in
theorem jobs_r (w : World) : Calls Tryz.prog 35 #[PR] w fun e w' => e = .returned (.bool true) ∧ w' = w := by
  unfold PR
  have q1 := ta_dover
  have q2 := ta_robust
  go_enter Tryz.func35, Tryz.ntmps35
  go_wp2_with fail
  go_ret
  exact ⟨rfl, rfl⟩
set_option maxRecDepth 100000 in
theorem dover_r (w : World) : Calls Tryz.prog 58 #[PR] w fun e w' => e = .returned (.tuple #[.agg #[.int .i64 0, .int .i64 0], .bool false]) ∧ Below w.heap.size w w' := by
  unfold PR
  have q1 := ta_dover
  go_enter Tryz.func58, Tryz.ntmps58
  go_wp2_with fail
  have X := (Blk.new w 73 [.int .i64 0, .int .i64 0]).alloc (.cells #[.int .i64 0, .int .i64 0] 75)
  have x0 := X.cellAt (i := 0) rfl
  have x1 := X.cellAt (i := 1) rfl
  refine bodyPost_ret (v := .tuple #[.agg #[.int .i64 0, .int .i64 0], .bool false]) (by simp [results, Tryz.results58, go_sem, x0, x1]) rfl ⟨rfl, ?_⟩
  exact (((Keeps.refl (fun _ => False) w).alloc _).alloc _).below (fun _ _ h => h)
set_option maxRecDepth 100000 in
theorem skip_r (w : World) : Calls Tryz.prog 60 #[PR] w fun e w' => e = .returned (.tuple #[.slice none 0 0, .bool false, .bool false]) ∧ Below w.heap.size w w' := by
  unfold PR
  have q1 := ta_skip
  have X := Blk.new w 198 [.slice none 0 0, .bool false]
  have x0 := X.cellAt (i := 0) rfl
  have x1 := X.cellAt (i := 1) rfl
  go_enter Tryz.func60, Tryz.ntmps60
  go_wp2_with fail
  go_quiet (fail)
  go_wp2_with fail
  refine bodyPost_ret (v := .tuple #[.slice none 0 0, .bool false, .bool false]) (by simp [results, Tryz.results60, go_sem]) rfl ⟨rfl, ?_⟩
  exact (((Keeps.refl (fun _ => False) w).alloc _).drewN _).below (fun _ _ h => h)
set_option maxRecDepth 100000 in
theorem elastic_r (w : World) : Calls Tryz.prog 62 #[PR] w fun e w' => e = .returned (.tuple #[.pointer none, .bool false]) ∧ Below w.heap.size w w' := by
  unfold PR
  have q1 := ta_elastic
  go_enter Tryz.func62, Tryz.ntmps62
  go_wp2_with fail
  refine bodyPost_ret (v := .tuple #[.pointer none, .bool false]) (by simp [results, Tryz.results62, go_sem]) rfl ⟨rfl, ?_⟩
  exact ((Keeps.refl (fun _ => False) w).alloc _).below (fun _ _ h => h)
set_option maxRecDepth 100000 in
theorem good_r (w : World) : Calls Tryz.prog 23 #[PR] w fun e w' => e = .returned (.bool true) ∧ Below w.heap.size w w' := by
  have C1 := dover_r w
  have C2 := fun W => skip_r W
  have C3 := fun W => elastic_r W
  have q2 := ta_robust
  unfold PR at *
  go_enter Tryz.func23, Tryz.ntmps23
  go_wp2_with (go_at_call 58; refine C1.mono ?_; rintro e w1 ⟨rfl, b1⟩)
  refine (C2 _).mono ?_
  rintro e w2 ⟨rfl, b2⟩
  go_wp2_with fail
  refine (C3 _).mono ?_
  rintro e w3 ⟨rfl, b3⟩
  go_wp2_with fail
  go_ret
  have c1 := b1.alloc b1.size (.cells #[.int .i64 0, .int .i64 0] 73)
  have c2 := c1.trans (b2.mono c1.size)
  have c3 := c2.trans (b3.mono c2.size)
  exact ⟨rfl, c3.alloc c3.size _⟩
end Aw
end Go.Proofs.YtbgiegecfapmlaaGreatDoor
