/- package exec at the way Robust: New, early, started, Submit; conditions: good jobs, the library's tables as its text lays them. -/
import Derived.Test.YtbgiegecfapmlaaGreatDoorAwPol
import Derived.Test.YtbgiegecfapmlaaGreatDoorRunAll
import Derived.Test.YtbgiegecfapmlaaGreatDoorHeldU
namespace Go.Proofs.YtbgiegecfapmlaaGreatDoor
open Go.RowKit
set_option linter.unusedVariables false
set_option linter.unusedSimpArgs false
namespace Aw
open Rob (own_below own_block_lt ob_mem blk_below below_drew J)
open Job (jc jv)
/-- A machine's cells: its way, its jobs, its monitors, its kernel. -/
def xc (l k : Value) : List Value := [PR, l, .slice none 0 0, k]
theorem new_x (w : World) : Calls Tryz.prog 9 #[PR] w fun e w' => ∃ x, e = .returned (.tuple #[.pointer (some ⟨x, 0, none⟩), .int .i64 0]) ∧ Blk w' x 69 (xc (.slice none 0 0) (.pointer none)) ∧ w.heap.size ≤ x ∧ Below w.heap.size w w' := by
  have C := good_r w
  unfold xc
  unfold PR at *
  go_enter Tryz.func9, Tryz.ntmps9
  go_wp2_with (go_at_call 23; refine C.mono ?_; rintro e w1 ⟨rfl, b1⟩)
  refine bodyPost_ret (v := .tuple #[.pointer (some ⟨w1.heap.size, 0, none⟩), .int .i64 0]) (by simp [results, Tryz.results9, go_sem]) rfl ?_
  have X := Blk.new w1 69 [.iface 71 (.agg #[]), .slice none 0 0, .slice none 0 0, .pointer none]
  first | exact ⟨w1.heap.size, rfl, X, b1.size, b1.alloc b1.size _⟩ | exact ⟨X, b1.size, b1.alloc b1.size _⟩
theorem early_x {w : World} {x : Nat} {l : Value} (h : Blk w x 69 (xc l (.pointer none))) : Calls Tryz.prog 24 #[.pointer (some ⟨x, 0, none⟩)] w fun e w' => e = .returned (.int .i64 0) ∧ w' = w := by
  have C := jobs_r w
  unfold xc at h
  have c0 := h.cellAt (i := 0) rfl
  have c3 := h.cellAt (i := 3) rfl
  unfold PR at *
  clear h
  go_enter Tryz.func24, Tryz.ntmps24
  go_wp2_with (go_at_call 35; refine C.mono ?_; rintro e w1 ⟨rfl, rfl⟩)
  go_ret
  exact ⟨rfl, rfl⟩
theorem started_x {w : World} {x k : Nat} {l : Value} (h : Blk w x 69 (xc l (.pointer (some ⟨k, 0, none⟩)))) : Calls Tryz.prog 26 #[.pointer (some ⟨x, 0, none⟩)] w fun e w' => e = .returned (.int .i64 0) ∧ w' = w := by
  have C := jobs_r w
  unfold xc at h
  have c0 := h.cellAt (i := 0) rfl
  have c3 := h.cellAt (i := 3) rfl
  unfold PR at *
  clear h
  go_enter Tryz.func26, Tryz.ntmps26
  go_wp2_with (go_at_call 35; refine C.mono ?_; rintro e w1 ⟨rfl, rfl⟩)
  go_ret
  exact ⟨rfl, rfl⟩
set_option maxRecDepth 100000 in
set_option maxHeartbeats 4000000 in
/-- A machine that has not started takes a job. -/
theorem submit_x {w : World} {base x : Nat} {lv : Value} {js : List J} {j : J} (T : Tabs w) (h : Blk w x 69 (xc lv (.pointer none))) (O : w.ownsRow base 36 8 lv js.length (js.flatMap jc)) (hbase : base ≤ w.heap.size) (hj : Job.good j = true) (hjn : j.nm.size < 4611686018427387904) (hn : js.length ≤ 100) :
    Calls Tryz.prog 11 #[.pointer (some ⟨x, 0, none⟩), jv j] w fun e w' => e = .returned (.tuple #[.int .i64 (js.length : Int), .int .i64 0]) ∧ ∃ lv', Blk w' x 69 (xc lv' (.pointer none)) ∧ w'.ownsRow base 36 8 lv' (js ++ [j]).length ((js ++ [j]).flatMap jc) ∧ Keeps (fun b => b = x ∨ lv.ownBlock = some b) w w' := by
  obtain ⟨i0, hI0, hz0, hz1, hz2⟩ := Rob.infoJ
  obtain ⟨AL, cL, hv⟩ := own_shape O
  subst hv
  have XB := Blk.new w 36 (jc j)
  have ba := (Below.refl w.heap.size w).alloc (Nat.le_refl _) (.cells (jc j).toArray 36)
  have h1 := blk_below h ba
  have O1 := own_below O ba
  have T1 := T.below ba
  have hob := own_block_lt O
  have HOB := Lib.hid hob
  have HNX := Lib.hid (fun b (e : (Value.slice AL js.length cL).ownBlock = some b) (e2 : b = w.heap.size) => (show False by have := (hob b (ob_mem.2 e)).2; omega))
  have BXX := Job.Box.of XB
  have hxw := h.lt
  have HXW := Lib.hid hxw
  have CE := fun W (hW : Below w.heap.size w W) => early_x (blk_below h hW)
  have HCE := Lib.hid CE
  have HBW := Lib.hid ba
  unfold jc at ba h1 O1 T1 BXX HBW
  have H1 := Lib.hid h1
  have HO1 := Lib.hid O1
  have HT1 := Lib.hid T1
  have HHB := Lib.hid hbase
  obtain ⟨x0, x1, x2, x3, x4, x5, x6, x7⟩ := BXX
  unfold jv
  clear CE hob XB ba h O T h1 O1 T1 hxw hbase
  go_enter Tryz.func11, Tryz.ntmps11
  go_upto_region 4 with (go_at_call 24; refine (HCE.out _ HBW.out).mono ?_; rintro e w1 ⟨rfl, rfl⟩)
  generalize w.alloc (.cells #[.string j.nm, .int .i64 j.rel, .int .i64 j.dl, .int .i64 j.bud, .int .i64 j.act, .int .i64 j.val, .int .i64 j.cln, .bool j.hard] 36) = w1 at *
  obtain ⟨X, hX⟩ : ∃ X, w.heap.size = X := ⟨_, rfl⟩
  rw [hX] at x0 x1 x2 x3 x4 x5 x6 x7
  have HX := Lib.hid (show Job.Box w1 X j from ⟨x0, x1, x2, x3, x4, x5, x6, x7⟩)
  have HNX2 : Hid (∀ b, (Value.slice AL js.length cL).ownBlock = some b → b ≠ X) := Lib.hid (fun b e e2 => HNX.out b e (by rw [hX]; exact e2))
  have CG := Job.good_is j w1 HT1.out hjn
  rw [hj] at CG
  unfold jv at CG
  rw [hX]
  have HXE := Lib.hid hX
  clear hX HNX HCE
  go_upto_region 6 with (go_at_call 25; refine CG.mono ?_; rintro e w2 ⟨rfl, b2⟩)
  have h2 := blk_below H1.out b2
  have O2 := own_below HO1.out b2
  have z2 := HX.out.below b2
  have c1 : w2.cell? ⟨x, 1, none⟩ = some (.slice AL js.length cL) := h2.cellAt (i := 1) rfl
  have hl1 : ¬ (200 : Int) ≤ (js.length : Int) := by omega
  have H2 := Lib.hid h2
  have HO2 := Lib.hid O2
  have HZ2 := Lib.hid z2
  have B2 := Lib.hid (HBW.out.trans (b2.mono HBW.out.size))
  clear CG x0 x1 x2 x3 x4 x5 x6 x7 h2 O2 z2 b2 H1 HO1 HT1 HX HBW
  go_upto_region 8 with fail
  refine wpU_begin (S := (fun W => W.cell? ⟨x, 1, none⟩ = some (.slice AL js.length cL) ∧ Job.Box W X j)) (U := 10) (by kernel_rfl) ?_
  have hd4 := below_drew w2
  have BX5 := blk_below H2.out hd4
  have O5 := own_below HO2.out hd4
  have z5 := HZ2.out.below hd4
  have B5 := B2.out.trans (hd4.mono B2.out.size)
  have y5 : w2.drew.cell? ⟨x, 1, none⟩ = some (.slice AL js.length cL) := c1
  have HNX := HNX2
  have hbs := HHB.out
  clear hd4 H2 HO2 HZ2 B2 c1 hl1
  generalize w2.drew = w5 at *
  refine wpU_take (i := 0) (oi := ⟨some 24, _, _, _, _, _⟩) (v := ?_) rfl (by kernel_rfl) (by kernel_rfl) (by kernel_rfl) (fun _ _ _ h => h) (by decide) (fun _ => ⟨y5, z5⟩) (Or.inl ⟨by kernel_rfl, ?_⟩) ?_
  rotate_left
  · intro w hSw; go_simp; try with_reducible rfl
  rotate_left
  try simp only [Act.put, List.setIfInBounds_toArray, List.set_cons_zero, List.set_cons_succ]
  refine wpU_take (i := 1) (oi := ⟨some 25, _, _, _, _, _⟩) (v := ?_) rfl (by kernel_rfl) (by kernel_rfl) (by kernel_rfl) (fun _ _ _ h => h) (by decide) (fun _ => ⟨y5, z5⟩) (Or.inl ⟨by kernel_rfl, ?_⟩) ?_
  rotate_left
  · intro w hSw; go_simp; try with_reducible rfl
  rotate_left
  try simp only [Act.put, List.setIfInBounds_toArray, List.set_cons_zero, List.set_cons_succ]
  refine wpU_take (i := 2) (oi := ⟨some 26, _, _, _, _, _⟩) (v := ?_) rfl (by kernel_rfl) (by kernel_rfl) (by kernel_rfl) (fun _ _ _ h => h) (by decide) (fun _ => ⟨y5, z5⟩) (Or.inl ⟨by kernel_rfl, ?_⟩) ?_
  rotate_left
  · intro w hSw; go_simp; try with_reducible rfl
  rotate_left
  try simp only [Act.put, List.setIfInBounds_toArray, List.set_cons_zero, List.set_cons_succ]
  refine wpU_take (i := 3) (oi := ⟨some 27, _, _, _, _, _⟩) (v := ?_) rfl (by kernel_rfl) (by kernel_rfl) (by kernel_rfl) (fun _ _ _ h => h) (by decide) (fun _ => ⟨y5, z5⟩) (Or.inl ⟨by kernel_rfl, ?_⟩) ?_
  rotate_left
  · intro w hSw; go_simp; try with_reducible rfl
  rotate_left
  try simp only [Act.put, List.setIfInBounds_toArray, List.set_cons_zero, List.set_cons_succ]
  refine wpU_load (i := 4) (oi := ⟨some 28, _, _, _, _, _⟩) (v := ?_) rfl (by kernel_rfl) (by kernel_rfl) (by kernel_rfl) (fun _ _ _ h => h) (by decide) (by kernel_rfl) (by kernel_rfl) (Or.inl ⟨by kernel_rfl, ?_⟩) ⟨y5, z5⟩ ?_
  rotate_left
  · intro w hSw; (try dsimp only at hSw); obtain ⟨q1, ⟨q20, q21, q22, q23, q24, q25, q26, q27⟩⟩ := hSw; go_simp; try with_reducible rfl
  rotate_left
  try simp only [Act.put, List.setIfInBounds_toArray, List.set_cons_zero, List.set_cons_succ]
  refine wpU_load (i := 5) (oi := ⟨some 29, _, _, _, _, _⟩) (v := ?_) rfl (by kernel_rfl) (by kernel_rfl) (by kernel_rfl) (fun _ _ _ h => h) (by decide) (by kernel_rfl) (by kernel_rfl) (Or.inl ⟨by kernel_rfl, ?_⟩) ⟨y5, z5⟩ ?_
  rotate_left
  · intro w hSw; (try dsimp only at hSw); obtain ⟨q1, ⟨q20, q21, q22, q23, q24, q25, q26, q27⟩⟩ := hSw; go_simp; try with_reducible rfl
  rotate_left
  try simp only [Act.put, List.setIfInBounds_toArray, List.set_cons_zero, List.set_cons_succ]
  refine wpU_ready (rs := [6]) (by kernel_rfl) (by simp) ?_
  refine AllReadyU.cons (o := ⟨some 30, _, _, _, _, _⟩) rfl (fun K hK => ?_) AllReadyU.nil
  go_simp
  have ba := (Below.refl w5.heap.size w5).alloc (Nat.le_refl _) (.cells #[.string j.nm, .int .i64 j.rel, .int .i64 j.dl, .int .i64 j.bud, .int .i64 j.act, .int .i64 j.val, .int .i64 j.cln, .bool j.hard] 36)
  have O6 := own_below O5 ba
  have N6 : Has (w5.alloc (.cells #[.string j.nm, .int .i64 j.rel, .int .i64 j.dl, .int .i64 j.bud, .int .i64 j.act, .int .i64 j.val, .int .i64 j.cln, .bool j.hard] 36)) 36 8 (.slice (some ⟨w5.heap.size, 0, none⟩) 1 1) 1 (jc j) := Has.box w5 36 8 1 (jc j) rfl (by unfold maxLen; omega)
  have y6 := (ba.cell (World.block_lt_of_cell? _ _ y5)).trans y5
  have z6 := z5.below ba
  have BX6 := blk_below BX5 ba
  have B6 := B5.trans (ba.mono B5.size)
  have hn5 : w5.heap.size < (w5.alloc (.cells #[.string j.nm, .int .i64 j.rel, .int .i64 j.dl, .int .i64 j.bud, .int .i64 j.act, .int .i64 j.val, .int .i64 j.cln, .bool j.hard] 36)).heap.size := by simp
  generalize w5.alloc (.cells #[.string j.nm, .int .i64 j.rel, .int .i64 j.dl, .int .i64 j.bud, .int .i64 j.act, .int .i64 j.val, .int .i64 j.cln, .bool j.hard] 36) = w6 at *
  refine hK.out _ _ (fun _ => ⟨y6, z6⟩) ?_
  clear hK K
  try simp only [Act.put, List.setIfInBounds_toArray, List.set_cons_zero, List.set_cons_succ]
  refine wpU_ready (rs := [7]) (by kernel_rfl) (by simp) ?_
  refine AllReadyU.cons (o := ⟨some 31, _, _, _, _, _⟩) rfl (fun K hK => ?_) AllReadyU.nil
  refine step_append_has rfl (.tmp 28) (.tmp 30) 22 rfl i0 _ 72 Tryz.underlying22 hI0 hz0 hz1 hz2 rfl (by decide) (by simp [Act.eval, Act.put]) O6 (some ⟨w5.heap.size, 0, none⟩) 1 1 (jc j) (by simp [Act.eval, Act.put]) N6 (Rob.jc_one j) (by unfold maxLen; omega) (by omega) (by have := B6.size; omega) ?_
  intro v7 w7 own7 g7 at7
  obtain ⟨A7, c7, hv7⟩ := own_shape own7
  subst hv7
  have K7 : Keeps (fun b => (Value.slice AL js.length cL).ownBlock = some b) w6 w7 := keeps_grown (Keeps.refl _ w6) g7 (fun g hg => .inl hg)
  have hnx : (Value.slice AL js.length cL).ownBlock ≠ some x := own_type_ne O6 BX6 (by decide)
  have hnX : (Value.slice AL js.length cL).ownBlock ≠ some X := fun e => HNX.out _ e rfl
  have BX7 := BX6.grown g7 hnx
  have f7 := BX7.frozen
  have y7 : w7.cell? ⟨x, 1, none⟩ = some (.slice AL js.length cL) := BX7.cellAt (i := 1) rfl
  have hX7 : w7.heap[X]? = w6.heap[X]? := K7.block X (World.block_lt_of_cell? _ _ z6.c0) hnX
  have z7 : Job.Box w7 X j := ⟨(World.cell?_of_block (a := ⟨X, 0, none⟩) hX7).trans z6.c0, (World.cell?_of_block (a := ⟨X, 1, none⟩) hX7).trans z6.c1, (World.cell?_of_block (a := ⟨X, 2, none⟩) hX7).trans z6.c2, (World.cell?_of_block (a := ⟨X, 3, none⟩) hX7).trans z6.c3, (World.cell?_of_block (a := ⟨X, 4, none⟩) hX7).trans z6.c4, (World.cell?_of_block (a := ⟨X, 5, none⟩) hX7).trans z6.c5, (World.cell?_of_block (a := ⟨X, 6, none⟩) hX7).trans z6.c6, (World.cell?_of_block (a := ⟨X, 7, none⟩) hX7).trans z6.c7⟩
  refine hK.out _ _ (fun _ => ⟨y7, z7⟩) ?_
  clear hK K
  try simp only [Act.put, List.setIfInBounds_toArray, List.set_cons_zero, List.set_cons_succ]
  refine wpU_take (i := 8) (oi := ⟨some 32, _, _, _, _, _⟩) (v := ?_) rfl (by kernel_rfl) (by kernel_rfl) (by kernel_rfl) (fun _ _ _ h => h) (by decide) (fun _ => ⟨y7, z7⟩) (Or.inl ⟨by kernel_rfl, ?_⟩) ?_
  rotate_left
  · intro w hSw; go_simp; try with_reducible rfl
  rotate_left
  try simp only [Act.put, List.setIfInBounds_toArray, List.set_cons_zero, List.set_cons_succ]
  refine wpU_take (i := 9) (oi := ⟨some 33, _, _, _, _, _⟩) (v := ?_) rfl (by kernel_rfl) (by kernel_rfl) (by kernel_rfl) (fun _ _ _ h => h) (by decide) (fun _ => ⟨y7, z7⟩) (Or.inl ⟨by kernel_rfl, ?_⟩) ?_
  rotate_left
  · intro w hSw; go_simp; try with_reducible rfl
  rotate_left
  try simp only [Act.put, List.setIfInBounds_toArray, List.set_cons_zero, List.set_cons_succ]
  refine wpU_ready (rs := [10]) (by kernel_rfl) (by simp) ?_
  refine AllReadyU.cons (o := ⟨none, _, _, _, _, _⟩) rfl (fun K hK => ?_) AllReadyU.nil
  go_simp
  refine hK.out _ _ (fun h => absurd h (by decide)) ?_
  clear hK K
  try simp only [Act.put, List.setIfInBounds_toArray, List.set_cons_zero, List.set_cons_succ]
  refine wpU_done (by kernel_rfl) ?_ _
  have hl7 : (js ++ [j]).length = js.length + 1 := by simp
  have hS' : (w7.setCell ⟨x, 1, none⟩ (.slice A7 (js.length + 1) c7)).cell? ⟨x, 1, none⟩ = some (.slice A7 (js.length + 1) c7) := (BX7.set_ 1 _).cellAt (i := 1) rfl
  have hn7 : (Value.slice A7 (js.length + 1) c7).ownBlock ≠ some x := own_type_ne own7 BX7 (by decide)
  have hO8 := own_kept own7 ((keep1 x w7).setCell ⟨x, 1, none⟩ (.inl rfl) (.slice A7 (js.length + 1) c7)) (fun g _ _ hg e => hn7 (by rw [hg, e]))
  have hB8 := BX7.set_ 1 (.slice A7 (js.length + 1) c7)
  have K8 : Keeps (fun b => b = x ∨ (Value.slice AL js.length cL).ownBlock = some b) w (w7.setCell ⟨x, 1, none⟩ (.slice A7 (js.length + 1) c7)) := by
    have k0 : Keeps (fun b => b = x ∨ (Value.slice AL js.length cL).ownBlock = some b) w w6 := keeps_of B6 _
    exact (k0.trans K7 (fun _ _ h => .inr h)).setCell _ (.inl (.inl rfl)) _
  have HO8 := Lib.hid hO8
  have HB8 := Lib.hid hB8
  have HK8 := Lib.hid K8
  have hw : wrap64 ((js.length : Int) + 1 - 1) = (js.length : Int) := by unfold wrap64; omega
  have hw2 : IntKind.i64.wrap ((js.length : Int) + 1 - 1) = (js.length : Int) := by rw [IntKind.wrap_i64]; omega
  clear hO8 hB8 K8 BX7 own7 g7 at7 K7 hn7 f7 y7 hX7 z7 hnx hnX O6 N6 y6 z6 BX6 B6 hn5 O5 BX5 z5 B5 y5
  generalize w7.setCell ⟨x, 1, none⟩ (.slice A7 (js.length + 1) c7) = w8 at *
  go_wp2_with fail
  refine bodyPost_ret (v := .tuple #[.int .i64 (js.length : Int), .int .i64 0]) (by simp [results, Tryz.results11, go_sem]) rfl ?_
  have hO9 : w8.ownsRow base 36 8 (.slice A7 (js.length + 1) c7) (js ++ [j]).length ((js ++ [j]).flatMap jc) := by
    have e : (js ++ [j]).flatMap jc = js.flatMap jc ++ jc j := by simp
    rw [hl7, e]; exact HO8.out
  first | exact ⟨rfl, _, HB8.out, hO9, HK8.out⟩ | exact ⟨rfl, ⟨_, HB8.out, hO9⟩, HK8.out⟩
end Aw
end Go.Proofs.YtbgiegecfapmlaaGreatDoor
