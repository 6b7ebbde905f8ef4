/- package policy at the way Dover with the rule 2 / 1; conditions: none. package dover: the runner in memory; say; conditions: none. package dover: live, aborted; conditions: the library's tables as its text lays them. package dover: lives; conditions: none. package dover: the runner in memory: what each write leaves; conditions: none. package dover: expire, aborted; conditions: none. -/
import Derived.Test.YtbgiegecfapmlaaGreatDoorW1
import Derived.Test.YtbgiegecfapmlaaGreatDoorRunMem
import Derived.Test.YtbgiegecfapmlaaGreatDoorRunArr
import Derived.Test.YtbgiegecfapmlaaGreatDoorRunMem2
namespace Go.Proofs.YtbgiegecfapmlaaGreatDoor
open Go.RowKit
set_option linter.unusedVariables false
set_option linter.unusedSimpArgs false
namespace Dv
open Rob (own_below own_block_lt ob_mem blk_below below_drew)
/-- The way Dover by the rule 2 / 1, as a Policy. -/
def PR : Value := .iface 75 (.agg #[.int .i64 2, .int .i64 1])
theorem ta_dover (W : World) : (Instr.typeAssert (.iface 75 (.agg #[.int .i64 2, .int .i64 1])) 31 75 true).run Tryz.prog W = .ok (.tuple #[.agg #[.int .i64 2, .int .i64 1], .bool true]) W := by
  kernel_rfl
theorem ta_robust (W : World) : (Instr.typeAssert (.iface 75 (.agg #[.int .i64 2, .int .i64 1])) 31 71 true).run Tryz.prog W = .ok (.tuple #[.agg #[], .bool false]) W := by
  kernel_rfl
set_option maxRecDepth 100000 in
theorem jobs_r (w : World) : Calls Tryz.prog 35 #[PR] w fun e w' => e = .returned (.bool true) ∧ w' = w := by
  unfold PR
  have q1 := ta_dover
  have q2 := ta_robust
  go_enter Tryz.func35, Tryz.ntmps35
  go_wp2_with fail
  go_ret
  exact ⟨rfl, rfl⟩
set_option maxRecDepth 100000 in
theorem dover_r (w : World) : Calls Tryz.prog 58 #[PR] w fun e w' => e = .returned (.tuple #[.agg #[.int .i64 2, .int .i64 1], .bool true]) ∧ Below w.heap.size w w' := by
  unfold PR
  have q1 := ta_dover
  go_enter Tryz.func58, Tryz.ntmps58
  go_wp2_with fail
  have X := (Blk.new w 73 [.int .i64 2, .int .i64 1]).alloc (.cells #[.int .i64 2, .int .i64 1] 75)
  have x0 := X.cellAt (i := 0) rfl
  have x1 := X.cellAt (i := 1) rfl
  refine bodyPost_ret (v := .tuple #[.agg #[.int .i64 2, .int .i64 1], .bool true]) (by simp [results, Tryz.results58, go_sem, x0, x1]) rfl ⟨rfl, ?_⟩
  exact (((Keeps.refl (fun _ => False) w).alloc _).alloc _).below (fun _ _ h => h)
theorem in_y (n a b : Int) (h1 : a ≤ n) (h2 : n ≤ b) (w : World) : Calls Tryz.prog 132 #[.int .i64 n, .int .i64 a, .int .i64 b] w fun e w' => e = .returned (.bool true) ∧ w' = w := by
  go_enter Tryz.func132, Tryz.ntmps132
  go_wp2_with fail
  go_ret
  exact ⟨rfl, rfl⟩
theorem root_y (w : World) : Calls Tryz.prog 133 #[.int .i64 2, .int .i64 1] w fun e w' => e = .returned (.bool true) ∧ w' = w := by
  have C1 := in_y 2 0 1000000 (by omega) (by omega)
  have C2 := in_y 1 1 1000000 (by omega) (by omega)
  go_enter Tryz.func133, Tryz.ntmps133
  go_wp2_with fail
  refine (C1 _).mono ?_
  rintro e w2 ⟨rfl, rfl⟩
  go_wp2_with fail
  refine (C2 _).mono ?_
  rintro e w3 ⟨rfl, rfl⟩
  go_wp2_with fail
  go_ret
  exact ⟨rfl, rfl⟩
set_option maxRecDepth 100000 in
theorem surd_y (w : World) : Calls Tryz.prog 104 #[.agg #[.int .i64 0, .int .i64 0, .int .i64 2, .int .i64 1]] w fun e w' => e = .returned (.bool true) ∧ Below w.heap.size w w' := by
  have C1 := in_y 0 (-1000000000) 1000000000 (by omega) (by omega)
  have C2 := root_y
  have ba := (Below.refl w.heap.size w).alloc (Nat.le_refl _) (.cells #[.int .i64 0, .int .i64 0, .int .i64 2, .int .i64 1] 196)
  have HB := Lib.hid ba
  clear ba
  go_enter Tryz.func104, Tryz.ntmps104
  go_wp2_with (first | (go_at_call 132; refine (C1 _).mono ?_; rintro e w2 ⟨rfl, rfl⟩) | (go_at_call 133; refine (C2 _).mono ?_; rintro e w3 ⟨rfl, rfl⟩))
  go_ret
  exact ⟨rfl, HB.out⟩
set_option maxRecDepth 100000 in
theorem rule_y (w : World) : Calls Tryz.prog 59 #[.agg #[.int .i64 2, .int .i64 1]] w fun e w' => e = .returned (.bool true) ∧ Below w.heap.size w w' := by
  have ba := (Below.refl w.heap.size w).alloc (Nat.le_refl _) (.cells #[.int .i64 2, .int .i64 1] 73)
  have C1 := surd_y (w.alloc (.cells #[.int .i64 2, .int .i64 1] 73))
  have X := Blk.new w 73 [.int .i64 2, .int .i64 1]
  have HX := Lib.hid X
  have HB := Lib.hid ba
  clear ba X
  go_enter Tryz.func59, Tryz.ntmps59
  go_upto_region 1 with fail
  generalize w.alloc (.cells #[.int .i64 2, .int .i64 1] 73) = w1 at *
  have x0 : w1.cell? ⟨w.heap.size, 0, none⟩ = some (.int .i64 2) := HX.out.cellAt (i := 0) rfl
  have x1 : w1.cell? ⟨w.heap.size, 1, none⟩ = some (.int .i64 1) := HX.out.cellAt (i := 1) rfl
  go_wp2_with (go_at_call 104; refine C1.mono ?_; rintro e w2 ⟨rfl, b2⟩; have X2 := blk_below HX.out b2; have y0 : w2.cell? ⟨w.heap.size, 0, none⟩ = some (.int .i64 2) := X2.cellAt (i := 0) rfl; have y1 : w2.cell? ⟨w.heap.size, 1, none⟩ = some (.int .i64 1) := X2.cellAt (i := 1) rfl; have HB2 := Lib.hid b2; clear X2 b2)
  go_ret
  exact ⟨rfl, HB.out.trans (HB2.out.mono HB.out.size)⟩
set_option maxRecDepth 100000 in
theorem good_r (w : World) : Calls Tryz.prog 23 #[PR] w fun e w' => e = .returned (.bool true) ∧ Below w.heap.size w w' := by
  have C1 := dover_r w
  have C2 := fun W => rule_y W
  unfold PR at *
  go_enter Tryz.func23, Tryz.ntmps23
  go_wp2_with (go_at_call 58; refine C1.mono ?_; rintro e w1 ⟨rfl, b1⟩; have HB1 := Lib.hid b1; clear b1)
  refine (C2 _).mono ?_
  rintro e w2 ⟨rfl, b2⟩
  go_wp2_with fail
  go_ret
  have c1 := HB1.out.alloc HB1.out.size (.cells #[.int .i64 2, .int .i64 1] 73)
  exact ⟨rfl, c1.trans (b2.mono c1.size)⟩
end Dv
end Go.Proofs.YtbgiegecfapmlaaGreatDoor

namespace Go.Proofs.YtbgiegecfapmlaaGreatDoor
open Go.RowKit
set_option linter.unusedVariables false
set_option linter.unusedSimpArgs false
namespace Dv
open Rob (own_below own_block_lt ob_mem blk_below below_drew J fc iv fc_len Goods)
open Job (jc jv)
/-- What a runner holds that turns. -/
structure St where
  ran : List Int
  fs : List (Int × Int)
  tr : List Int
  al : List Int
def ranAt (s : St) (i : Nat) : Int := s.ran.getD i 0
def kdAt (s : St) (i : Nat) : Int := (s.fs.getD i (0, 0)).1
def say (s : St) (i : Nat) (k t : Int) : St := { s with fs := s.fs.set i (k, t) }
/-- Where a runner lies. -/
structure Adr where
  p : Nat
  gr : Nat
  gf : Nat
  Aj : Option Addr
  cj : Nat
  Ao : Option Addr
  co : Nat
  cr : Nat
  cf : Nat
  tv : Value
  av : Value
def ob (v : Value) : List Nat := v.ownBlock.toList
def Adr.blocks (d : Adr) : List Nat := d.p :: d.gr :: d.gf :: (ob d.tv ++ ob d.av ++ ((d.Aj.map (·.block)).toList ++ (d.Ao.map (·.block)).toList))
structure At (base : Nat) (w : World) (d : Adr) (js : List J) (od : List Int) (s : St) (now : Int) : Prop where
  B : Blk w d.p 219 [.int .i64 2, .int .i64 1, .slice d.Aj js.length d.cj, .slice d.Ao js.length d.co, .slice (some ⟨d.gr, 0, none⟩) js.length d.cr, d.tv, .slice (some ⟨d.gf, 0, none⟩) js.length d.cf, d.av, .int .i64 now]
  JR : Row jc 8 w d.Aj js.length js
  OR : Row (fun x => [iv x]) 1 w d.Ao js.length od
  R : Blk w d.gr 3 (s.ran.map iv)
  F : Blk w d.gf 53 (s.fs.flatMap fc)
  lr : s.ran.length = js.length
  lf : s.fs.length = js.length
  T : w.ownsRow base 3 1 d.tv s.tr.length (s.tr.map iv)
  A : w.ownsRow base 3 1 d.av s.al.length (s.al.map iv)
  od : ∀ x ∈ od, 0 ≤ x ∧ x < js.length
  nd : d.blocks.Nodup
  ge : ∀ b ∈ d.blocks, base ≤ b
  lt : ∀ b ∈ d.blocks, b < w.heap.size
  n12 : js.length ≤ 12
section
variable {base : Nat} {w w' : World} {d : Adr} {js : List J} {od : List Int} {s : St} {now : Int}
theorem At.down (h : At base w d js od s now) (hb : Below w.heap.size w w') : At base w' d js od s now := by
  constructor
  · exact blk_below h.B hb
  · exact Row.below h.JR hb
  · exact Row.below h.OR hb
  · exact blk_below h.R hb
  · exact blk_below h.F hb
  · exact h.lr
  · exact h.lf
  · exact own_below h.T hb
  · exact own_below h.A hb
  · exact h.od
  · exact h.nd
  · exact h.ge
  · exact fun b hb' => Nat.lt_of_lt_of_le (h.lt b hb') hb.size
  · exact h.n12
/-- A fate is written. -/
theorem At.fate (h : At base w d js od s now) (k : Keeps (· = d.gf) w w') {fs : List (Int × Int)} (hf : Blk w' d.gf 53 (fs.flatMap fc)) (hl : fs.length = js.length) : At base w' d js od { s with fs := fs } now := by
  have hn := h.nd
  unfold Adr.blocks at hn
  rw [List.nodup_cons, List.nodup_cons, List.nodup_cons] at hn
  obtain ⟨n1, n2, n3, _⟩ := hn
  have ho : ∀ b ∈ ob d.tv ++ ob d.av ++ ((d.Aj.map (·.block)).toList ++ (d.Ao.map (·.block)).toList), ¬ b = d.gf := fun b hb e => n3 (by rw [← e]; exact hb)
  constructor
  · exact h.B.kept k (fun e => n1 (by rw [e]; simp))
  · exact Rob.Row.kept' h.JR k (fun a ha => ho _ (by simp [ha]))
  · exact Rob.Row.kept' h.OR k (fun a ha => ho _ (by simp [ha]))
  · exact h.R.kept k (fun e => n2 (by rw [e]; simp))
  · exact hf
  · exact h.lr
  · exact hl
  · exact own_kept h.T k (fun g _ _ hg => ho g (by simp [ob, hg]))
  · exact own_kept h.A k (fun g _ _ hg => ho g (by simp [ob, hg]))
  · exact h.od
  · exact h.nd
  · exact h.ge
  · exact fun b hb' => Nat.lt_of_lt_of_le (h.lt b hb') k.size
  · exact h.n12
set_option maxRecDepth 100000 in
set_option maxHeartbeats 4000000 in
theorem say_is (h : At base w d js od s now) {i : Nat} (hi : i < js.length) (k t : Int) (ht : -1000000 ≤ now + t ∧ now + t ≤ 1000000) :
    Calls Tryz.prog 117 #[.pointer (some ⟨d.p, 0, none⟩), .int .i64 (i : Int), .int .i64 k, .int .i64 t] w fun e w' =>
      e = .returned (.tuple #[]) ∧ At base w' d js od (say s i k (now + t)) now ∧ Keeps (· = d.gf) w w' := by
  have hwr : IntKind.i64.wrap (now + t) = now + t := by rw [IntKind.wrap_i64]; omega
  have hwr2 : wrap64 (now + t) = now + t := by unfold wrap64; omega
  have b6 := h.B.cellAt (i := 6) rfl
  have b8 := h.B.cellAt (i := 8) rfl
  have hif : i < s.fs.length := by rw [h.lf]; exact hi
  obtain ⟨f, hf⟩ : ∃ f, s.fs[i]? = some f := ⟨s.fs[i], List.getElem?_eq_getElem hif⟩
  have d0 := h.F.cellAt (flat_at fc_len hf (j := 0) rfl)
  have d1 := h.F.cellAt (flat_at fc_len hf (j := 1) rfl)
  rw [Nat.add_zero] at d0
  have fz := h.F.frozen
  have hi0 : (0 : Int) ≤ (i : Int) := by omega
  have hi1 : (i : Int) < (js.length : Int) := by omega
  have H := Lib.hid h
  have HT := Lib.hid ht
  clear h ht hf hif hi
  go_enter Tryz.func117, Tryz.ntmps117
  go_wp2_with fail
  go_still_tail 15, (by kernel_rfl)
  go_wp2_with fail
  go_end0
  have K : Keeps (· = d.gf) w (((w.setCell ⟨d.gf, i * 2, none⟩ (.int .i64 k)).setCell ⟨d.gf, i * 2 + 1, none⟩ (.int .i64 (now + t))).drew) := (((keep1 d.gf w).setCell _ (.inl rfl) _).setCell _ (.inl rfl) _).drew
  refine ⟨rfl, H.out.fate K ?_ ?_, K⟩
  · rw [flat_set fc_len (by omega)]; exact ((H.out.F.set_ (i * 2) _).set_ (i * 2 + 1) _).drew
  · rw [List.length_set]; exact H.out.lf
end
end Dv
end Go.Proofs.YtbgiegecfapmlaaGreatDoor

namespace Go.Proofs.YtbgiegecfapmlaaGreatDoor
open Go.RowKit
set_option linter.unusedVariables false
set_option linter.unusedSimpArgs false
namespace Dv
open Rob (own_below own_block_lt ob_mem blk_below below_drew J fc iv fc_len Goods relAt)
open Job (jc jv)
section
variable {base : Nat} {w w' : World} {d : Adr} {js : List J} {od : List Int} {s : St} {now : Int}
def lv (js : List J) (s : St) (now : Int) (i : Nat) : Bool := decide (relAt js i ≤ now) && (kdAt s i == 0)
theorem kd_get (h : At base w d js od s now) {i : Nat} (hi : i < js.length) : (s.fs.flatMap fc)[i * 2 + 0]? = some (.int .i64 (kdAt s i)) := by
  have hif : i < s.fs.length := by rw [h.lf]; exact hi
  have e : s.fs[i]? = some s.fs[i] := List.getElem?_eq_getElem hif
  refine flat_at fc_len e (j := 0) ?_
  unfold kdAt
  rw [List.getD_eq_getElem?_getD, e]
  rfl
theorem ran_get (h : At base w d js od s now) {i : Nat} (hi : i < js.length) : (s.ran.map iv)[i]? = some (.int .i64 (ranAt s i)) := by
  have : i < s.ran.length := by rw [h.lr]; exact hi
  rw [List.getElem?_map, List.getElem?_eq_getElem this]
  unfold ranAt
  rw [List.getD_eq_getElem?_getD, List.getElem?_eq_getElem this]
  rfl
set_option maxRecDepth 100000 in
set_option maxHeartbeats 4000000 in
theorem live_d (h : At base w d js od s now) {i : Nat} (hi : i < js.length) :
    Calls Tryz.prog 143 #[.pointer (some ⟨d.p, 0, none⟩), .int .i64 (i : Int)] w fun e w' => e = .returned (.bool (lv js s now i)) ∧ Drawn w w' := by
  obtain ⟨b, off, x, hA, hx, hb, c0, c1, c2, c3, c4, c5, c6, c7⟩ := Job.cells8 h.JR hi
  have b2 := h.B.cellAt (i := 2) rfl
  have b6 := h.B.cellAt (i := 6) rfl
  have b8 := h.B.cellAt (i := 8) rfl
  have d0 := h.F.cellAt (kd_get h hi)
  rw [Nat.add_zero] at d0
  rw [hA] at b2
  have hi0 : (0 : Int) ≤ (i : Int) := by omega
  have hi1 : (i : Int) < (js.length : Int) := by omega
  have hrel : relAt js i = x.rel := by unfold Rob.relAt; rw [hx]; rfl
  obtain ⟨o, ho⟩ : ∃ o, lv js s now i = o := ⟨_, rfl⟩
  rw [ho]
  unfold lv at ho
  rw [hrel] at ho
  have HO := Lib.hid ho
  clear ho h hA hx hb hrel c0 c2 c3 c4 c5 c6 c7
  generalize x.rel = u at *
  generalize kdAt s i = v at *
  by_cases h1 : u ≤ now
  · by_cases h2 : v = 0
    · have q2 : (v == 0) = true := by simpa using h2
      have F : Hid (o = true) := Lib.hid (by rw [← HO.out, q2]; simp [h1])
      subst h2
      have q1 : decide (u ≤ now) = true := by simpa using h1
      go_enter Tryz.func143, Tryz.ntmps143
      go_wp2_with fail
      go_quiet (fail)
      go_wp2_with fail
      go_ret
      exact ⟨by rw [F.out]; rfl, ⟨_, rfl⟩⟩
    · have q2 : (v == 0) = false := by simpa using h2
      have F : Hid (o = false) := Lib.hid (by rw [← HO.out, q2]; simp)
      have q1 : decide (u ≤ now) = true := by simpa using h1
      have q3 : decide (v = 0) = false := by simpa using h2
      go_enter Tryz.func143, Tryz.ntmps143
      go_wp2_with fail
      go_quiet (fail)
      go_wp2_with fail
      go_ret
      exact ⟨by rw [F.out]; rfl, ⟨_, rfl⟩⟩
  · have F : Hid (o = false) := Lib.hid (by rw [← HO.out]; simp [h1])
    have q1 : decide (u ≤ now) = false := by simpa using h1
    go_enter Tryz.func143, Tryz.ntmps143
    go_wp2_with fail
    go_quiet (fail)
    go_wp2_with fail
    go_ret
    exact ⟨by rw [F.out]; rfl, ⟨_, rfl⟩⟩
theorem live_is (h : At base w d js od s now) {i : Nat} (hi : i < js.length) :
    Calls Tryz.prog 143 #[.pointer (some ⟨d.p, 0, none⟩), .int .i64 (i : Int)] w fun e w' => e = .returned (.bool (lv js s now i)) ∧ Below w.heap.size w w' :=
  (live_d h hi).mono fun _ _ ⟨he, hd⟩ => ⟨he, (hd.keeps (fun _ => False)).below (fun _ _ h => h)⟩
end
end Dv
end Go.Proofs.YtbgiegecfapmlaaGreatDoor

namespace Go.Proofs.YtbgiegecfapmlaaGreatDoor
open Go.RowKit
set_option linter.unusedVariables false
set_option linter.unusedSimpArgs false
namespace Dv
open Rob (own_below own_block_lt ob_mem blk_below below_drew J fc iv fc_len Goods relAt)
open Job (jc jv)
section
variable {base : Nat} {w w' : World} {d : Adr} {js : List J} {od : List Int} {s : St} {now : Int}
/-- Those that are live, of a list. -/
def lives (js : List J) (s : St) (now : Int) (l : List Int) : List Int := l.filter fun x => lv js s now x.toNat
set_option maxRecDepth 100000 in
set_option maxHeartbeats 4000000 in
theorem lives_is (h : At base w d js od s now) :
    Calls Tryz.prog 144 #[.pointer (some ⟨d.p, 0, none⟩)] w fun e w' => ∃ v, e = .returned v ∧ w'.ownsRow w.heap.size 3 1 v (lives js s now od).length ((lives js s now od).map iv) ∧ Below w.heap.size w w' := by
  obtain ⟨i0, hI0, hz0, hz1, hz2⟩ := Rob.infoI
  have b3 := h.B.cellAt (i := 3) rfl
  have hlen := h.OR.1
  have HLN := Lib.hid hlen
  have hn12 := h.n12
  have H := Lib.hid h
  have HN := Lib.hid hn12
  clear h hlen hn12
  go_enter Tryz.func144, Tryz.ntmps144
  go_wp2_with fail
  go_loopw [3, 11] (fun v i wr => ∃ k n : Nat, k ≤ js.length ∧ n ≤ k ∧ i = .int .i64 (k : Int) ∧ wr.ownsRow w.heap.size 3 1 v n ((lives js s now (od.take k)).map iv) ∧ Below w.heap.size w wr) (fun _ i _ => js.length - (intOf i).toNat)
  case atStart => exact ⟨0, 0, by omega, by omega, rfl, ⟨by simp [lives], .inl ⟨rfl, rfl⟩⟩, Below.refl _ _⟩
  case round =>
    obtain ⟨k, n, hk, hll, hi, O, B⟩ := hrel
    subst hi
    obtain ⟨AS, cS, hv⟩ := own_shape O
    subst hv
    by_cases hkn : k < js.length
    · have hlt : (k : Int) < (js.length : Int) := by omega
      have hk0 : (0 : Int) ≤ (k : Int) := by omega
      have hk1 : (k : Int) + 1 ≤ 9223372036854775807 := by have := HN.out; omega
      obtain ⟨g, off, y, hA, hy, hgl, hc⟩ := H.out.OR.at_ B hkn
      have c0 : wr.cell? ⟨g, off + k, none⟩ = some (.int .i64 y) := by
        have := hc 0 _ rfl
        rwa [Nat.add_zero, Nat.mul_one] at this
      have hyb := H.out.od y (List.mem_of_getElem? hy)
      have hym : (y.toNat : Int) = y := by omega
      have CL := live_is (H.out.down B) (i := y.toNat) (by omega)
      obtain ⟨o, ho⟩ : ∃ o, lv js s now y.toNat = o := ⟨_, rfl⟩
      rw [ho, hym] at CL
      have hnext : lives js s now (od.take (k + 1)) = lives js s now (od.take k) ++ (if o then [y] else []) := by
        rw [take_next hy]
        unfold lives
        rw [List.filter_append]
        cases o <;> simp [ho]
      have HNX := Lib.hid hnext
      have HO := Lib.hid O
      have HB := Lib.hid B
      rw [hA]
      have HLL := Lib.hid hll
      clear hnext O B hA hy hgl hc ho hll hyb hym
      cases o with
      | false =>
        go_wp2_with (go_at_call 143; refine CL.mono ?_; rintro e w2 ⟨rfl, b2⟩; have HB2 := Lib.hid b2; clear b2)
        go_roundw
        case rel => exact ⟨k + 1, n, by omega, by have := HLL.out; omega, by simp, by rw [HNX.out]; simp only [Bool.false_eq_true, if_false, List.append_nil]; exact own_below HO.out HB2.out, HB.out.trans (HB2.out.mono HB.out.size)⟩
        case measure => simp [intOf]; omega
      | true =>
        go_upto_region 6 with (go_at_call 143; refine CL.mono ?_; rintro e w2 ⟨rfl, b2⟩; have HB2 := Lib.hid b2; clear b2)
        have O2 := own_below HO.out HB2.out
        have B2 := HB.out.trans (HB2.out.mono HB.out.size)
        have O5 := own_below O2 ((Below.refl w2.heap.size w2).alloc (Nat.le_refl _) (.cells #[.int .i64 y] 3))
        have hsz5 : w.heap.size ≤ (w2.alloc (.cells #[.int .i64 y] 3)).heap.size := by have := B2.size; simp; omega
        have HGO := Lib.hid (own_block_lt O2)
        have HBB := Lib.hid B2
        clear O2 B2 CL
        go_wp2_with (at_builtin; refine wpList_append_has rfl (.tmp 18) (.tmp 20) 23 rfl i0 _ 8 Tryz.underlying23 hI0 hz0 hz1 hz2 rfl (by decide) rfl O5 (some ⟨w2.heap.size, 0, none⟩) 1 1 [.int .i64 y] rfl (Has.box w2 3 1 1 [.int .i64 y] rfl (by unfold maxLen; omega)) (Rob.iv_one [y]) (by have := HLL.out; have := HN.out; unfold maxLen; omega) (by have := HLL.out; have := HN.out; omega) hsz5 ?_; intro v6 w6 own6 g6 at6; obtain ⟨A6, c6, hv6⟩ := own_shape own6; subst hv6; have OWN6 := Lib.hid own6; have KG := Lib.hid (keeps_grown (w0 := w) (S := fun _ => False) (Keeps.of_below (HBB.out.alloc HBB.out.size (.cells #[.int .i64 y] 3))) g6 (fun g hg => .inr (HGO.out g (ob_mem.2 hg)).1)); clear own6 g6 at6)
        go_roundw
        case rel => exact ⟨k + 1, n + 1, by omega, by have := HLL.out; omega, by simp, by rw [HNX.out]; simp only [if_true, List.map_append]; exact OWN6.out, KG.out.below (fun _ _ h => h)⟩
        case measure => simp [intOf]; omega
    · have hlt : ¬ (k : Int) < (js.length : Int) := by omega
      have hkn2 : k = js.length := by omega
      subst hkn2
      have htk : od.take js.length = od := List.take_of_length_le (by have := HLN.out; omega)
      rw [htk] at O
      have hnl : n = (lives js s now od).length := by have := O.1; rw [List.length_map] at this; omega
      subst hnl
      have HO := Lib.hid O
      have HB := Lib.hid B
      clear O B htk hlt
      go_wp2_with fail
      go_ret
      exact ⟨_, rfl, HO.out, HB.out⟩
end
end Dv
end Go.Proofs.YtbgiegecfapmlaaGreatDoor

namespace Go.Proofs.YtbgiegecfapmlaaGreatDoor
open Go.RowKit
set_option linter.unusedVariables false
set_option linter.unusedSimpArgs false
namespace Dv
open Rob (own_below own_block_lt ob_mem blk_below below_drew J fc iv fc_len Goods relAt nodup_new Fresh Turn)
open Job (jc jv)
section
variable {base : Nat} {w w' : World} {d : Adr} {js : List J} {od : List Int} {s : St} {now : Int}
/-- The blocks of jobs and of their order. -/
def Adr.ins (d : Adr) : List Nat := (d.Aj.map (·.block)).toList ++ (d.Ao.map (·.block)).toList
/-- The blocks that a runner is made of are apart. -/
structure Apt (d : Adr) : Prop where
  pr : d.p ≠ d.gr
  pf : d.p ≠ d.gf
  rf : d.gr ≠ d.gf
  o : ∀ b ∈ ob d.tv ++ ob d.av ++ d.ins, b ≠ d.p ∧ b ≠ d.gr ∧ b ≠ d.gf
  n : (ob d.tv ++ ob d.av ++ d.ins).Nodup
theorem At.apt (h : At base w d js od s now) : Apt d := by
  have hn := h.nd
  unfold Adr.blocks at hn
  rw [List.nodup_cons, List.nodup_cons, List.nodup_cons] at hn
  obtain ⟨n1, n2, n3, n5⟩ := hn
  refine ⟨fun e => n1 (by rw [e]; simp), fun e => n1 (by rw [e]; simp), fun e => n2 (by rw [e]; simp), fun b hb => ⟨?_, ?_, ?_⟩, n5⟩
  · rintro rfl; exact n1 (by simp only [List.mem_cons]; exact .inr (.inr hb))
  · rintro rfl; exact n2 (by simp only [List.mem_cons]; exact .inr hb)
  · rintro rfl; exact n3 hb
theorem aj_ins {d : Adr} {a : Addr} (h : d.Aj = some a) : a.block ∈ d.ins := by unfold Adr.ins; simp [h]
theorem ao_ins {d : Adr} {a : Addr} (h : d.Ao = some a) : a.block ∈ d.ins := by unfold Adr.ins; simp [h]
/-- One of 'ran' is written. -/
theorem At.rset (h : At base w d js od s now) {i : Nat} (hi : i < js.length) (k : Int) : At base (w.setCell ⟨d.gr, i, none⟩ (.int .i64 k)) d js od { s with ran := s.ran.set i k } now ∧ Keeps (· = d.gr) w (w.setCell ⟨d.gr, i, none⟩ (.int .i64 k)) := by
  have K : Keeps (· = d.gr) w (w.setCell ⟨d.gr, i, none⟩ (.int .i64 k)) := (keep1 d.gr w).setCell _ (.inl rfl) _
  have a := h.apt
  refine ⟨?_, K⟩
  constructor
  · exact h.B.kept K a.pr
  · exact Rob.Row.kept' h.JR K (fun x hx => (a.o _ (List.mem_append_right _ (aj_ins hx))).2.1)
  · exact Rob.Row.kept' h.OR K (fun x hx => (a.o _ (List.mem_append_right _ (ao_ins hx))).2.1)
  · show Blk _ _ _ ((s.ran.set i k).map iv)
    rw [List.map_set]; exact h.R.set_ i _
  · exact h.F.kept K (fun e => a.rf e.symm)
  · show (s.ran.set i k).length = _
    rw [List.length_set]; exact h.lr
  · exact h.lf
  · exact own_kept h.T K (fun g _ _ hg => (a.o g (by simp [ob, hg])).2.1)
  · exact own_kept h.A K (fun g _ _ hg => (a.o g (by simp [ob, hg])).2.1)
  · exact h.od
  · exact h.nd
  · exact h.ge
  · exact fun b hb => Nat.lt_of_lt_of_le (h.lt b hb) K.size
  · exact h.n12
/-- The tick is written. -/
theorem At.tick (h : At base w d js od s now) (t : Int) : At base (w.setCell ⟨d.p, 8, none⟩ (.int .i64 t)) d js od s t ∧ Keeps (· = d.p) w (w.setCell ⟨d.p, 8, none⟩ (.int .i64 t)) := by
  have K : Keeps (· = d.p) w (w.setCell ⟨d.p, 8, none⟩ (.int .i64 t)) := (keep1 d.p w).setCell _ (.inl rfl) _
  have a := h.apt
  refine ⟨?_, K⟩
  constructor
  · exact h.B.set_ 8 _
  · exact Rob.Row.kept' h.JR K (fun x hx => (a.o _ (List.mem_append_right _ (aj_ins hx))).1)
  · exact Rob.Row.kept' h.OR K (fun x hx => (a.o _ (List.mem_append_right _ (ao_ins hx))).1)
  · exact h.R.kept K (fun e => a.pr e.symm)
  · exact h.F.kept K (fun e => a.pf e.symm)
  · exact h.lr
  · exact h.lf
  · exact own_kept h.T K (fun g _ _ hg => (a.o g (by simp [ob, hg])).1)
  · exact own_kept h.A K (fun g _ _ hg => (a.o g (by simp [ob, hg])).1)
  · exact h.od
  · exact h.nd
  · exact h.ge
  · exact fun b hb => Nat.lt_of_lt_of_le (h.lt b hb) K.size
  · exact h.n12
theorem blocks_t (d : Adr) (v : Value) : ({ d with tv := v } : Adr).blocks = [d.p, d.gr, d.gf] ++ ob v ++ (ob d.av ++ d.ins) := by unfold Adr.blocks Adr.ins; simp
theorem blocks_a (d : Adr) (v : Value) : ({ d with av := v } : Adr).blocks = ([d.p, d.gr, d.gf] ++ ob d.tv) ++ ob v ++ d.ins := by unfold Adr.blocks Adr.ins; simp
/-- The trace is another row. -/
theorem At.trs (h : At base w d js od s now) (hbase : base ≤ w.heap.size) {v : Value} {l : List Int} (k : Keeps (Turn d.p d.tv) w w') (hf : Fresh w d.tv v)
    (hB : Blk w' d.p 219 [.int .i64 2, .int .i64 1, .slice d.Aj js.length d.cj, .slice d.Ao js.length d.co, .slice (some ⟨d.gr, 0, none⟩) js.length d.cr, v, .slice (some ⟨d.gf, 0, none⟩) js.length d.cf, d.av, .int .i64 now])
    (hS : w'.ownsRow base 3 1 v l.length (l.map iv)) : At base w' { d with tv := v } js od { s with tr := l } now := by
  have a := h.apt
  have hsv : ∀ b, d.tv.ownBlock = some b → b ∈ ob d.tv ++ ob d.av ++ d.ins := fun b hb => by simp [ob, hb]
  have hne : ∀ b, b ∈ ob d.av ∨ b ∈ d.ins → ¬ Turn d.p d.tv b := by
    rintro b hb (e | e)
    · exact (a.o b (by simp only [List.mem_append]; rcases hb with hb | hb <;> simp [hb])).1 e
    · have hs : b ∈ ob d.tv := ob_mem.2 e
      have n := a.n
      rw [List.append_assoc] at n
      have n1 := List.nodup_append.1 n
      rcases hb with hb | hb
      · exact n1.2.2 b hs b (by simp [hb]) rfl
      · exact n1.2.2 b hs b (by simp [hb]) rfl
  have hnd := h.nd
  have hlt := h.lt
  rw [show d = { d with tv := d.tv } from rfl, blocks_t] at hnd hlt
  obtain ⟨m1, m2⟩ := nodup_new hnd hlt hf
  constructor
  · exact hB
  · exact Rob.Row.kept' h.JR k (fun x hx => hne _ (.inr (aj_ins hx)))
  · exact Rob.Row.kept' h.OR k (fun x hx => hne _ (.inr (ao_ins hx)))
  · exact h.R.kept k (fun e => e.elim (fun e => a.pr e.symm) (fun e => (a.o _ (hsv _ e)).2.1 rfl))
  · exact h.F.kept k (fun e => e.elim (fun e => a.pf e.symm) (fun e => (a.o _ (hsv _ e)).2.2 rfl))
  · exact h.lr
  · exact h.lf
  · exact hS
  · exact own_kept h.A k (fun g _ _ hg => hne g (.inl (ob_mem.2 hg)))
  · exact h.od
  · rw [blocks_t]; exact m1
  · rw [blocks_t]; intro b hb
    rcases m2 b hb with hb | ⟨_, hb⟩
    · exact h.ge b (by rw [show d = { d with tv := d.tv } from rfl, blocks_t]; exact hb)
    · exact Nat.le_trans hbase hb
  · rw [blocks_t]; intro b hb
    rcases m2 b hb with hb' | ⟨hb', _⟩
    · exact Nat.lt_of_lt_of_le (hlt b hb') k.size
    · exact (own_block_lt hS b hb').2
  · exact h.n12
/-- The alarms are another row. -/
theorem At.als (h : At base w d js od s now) (hbase : base ≤ w.heap.size) {v : Value} {l : List Int} (k : Keeps (Turn d.p d.av) w w') (hf : Fresh w d.av v)
    (hB : Blk w' d.p 219 [.int .i64 2, .int .i64 1, .slice d.Aj js.length d.cj, .slice d.Ao js.length d.co, .slice (some ⟨d.gr, 0, none⟩) js.length d.cr, d.tv, .slice (some ⟨d.gf, 0, none⟩) js.length d.cf, v, .int .i64 now])
    (hS : w'.ownsRow base 3 1 v l.length (l.map iv)) : At base w' { d with av := v } js od { s with al := l } now := by
  have a := h.apt
  have hsv : ∀ b, d.av.ownBlock = some b → b ∈ ob d.tv ++ ob d.av ++ d.ins := fun b hb => by simp [ob, hb]
  have hne : ∀ b, b ∈ ob d.tv ∨ b ∈ d.ins → ¬ Turn d.p d.av b := by
    rintro b hb (e | e)
    · exact (a.o b (by simp only [List.mem_append]; rcases hb with hb | hb <;> simp [hb])).1 e
    · have hs : b ∈ ob d.av := ob_mem.2 e
      have n := a.n
      rw [List.append_assoc] at n
      have n1 := List.nodup_append.1 n
      have n2 := List.nodup_append.1 n1.2.1
      rcases hb with hb | hb
      · exact n1.2.2 b hb b (by simp [hs]) rfl
      · exact n2.2.2 b hs b hb rfl
  have hnd := h.nd
  have hlt := h.lt
  rw [show d = { d with av := d.av } from rfl, blocks_a] at hnd hlt
  obtain ⟨m1, m2⟩ := nodup_new hnd hlt hf
  constructor
  · exact hB
  · exact Rob.Row.kept' h.JR k (fun x hx => hne _ (.inr (aj_ins hx)))
  · exact Rob.Row.kept' h.OR k (fun x hx => hne _ (.inr (ao_ins hx)))
  · exact h.R.kept k (fun e => e.elim (fun e => a.pr e.symm) (fun e => (a.o _ (hsv _ e)).2.1 rfl))
  · exact h.F.kept k (fun e => e.elim (fun e => a.pf e.symm) (fun e => (a.o _ (hsv _ e)).2.2 rfl))
  · exact h.lr
  · exact h.lf
  · exact own_kept h.T k (fun g _ _ hg => hne g (.inl (ob_mem.2 hg)))
  · exact hS
  · exact h.od
  · rw [blocks_a]; exact m1
  · rw [blocks_a]; intro b hb
    rcases m2 b hb with hb | ⟨_, hb⟩
    · exact h.ge b (by rw [show d = { d with av := d.av } from rfl, blocks_a]; exact hb)
    · exact Nat.le_trans hbase hb
  · rw [blocks_a]; intro b hb
    rcases m2 b hb with hb' | ⟨hb', _⟩
    · exact Nat.lt_of_lt_of_le (hlt b hb') k.size
    · exact (own_block_lt hS b hb').2
  · exact h.n12
/-- How many wait. -/
def wt (s : St) : Nat := s.fs.countP fun f => f.1 == 0
theorem wt_say (s : St) {i : Nat} (k t : Int) (hk : k ≠ 0) (hi : i < s.fs.length) : wt (say s i k t) + (if kdAt s i = 0 then 1 else 0) = wt s := by
  have hkd : kdAt s i = s.fs[i].1 := by unfold kdAt; rw [List.getD_eq_getElem?_getD, List.getElem?_eq_getElem hi]; rfl
  unfold wt say
  rw [hkd]
  clear hkd
  generalize s.fs = l at *
  induction l generalizing i with
  | nil => simp at hi
  | cons f l ih =>
    cases i with
    | zero =>
      simp only [List.set_cons_zero, List.getElem_cons_zero, List.countP_cons]
      have : ((k, t).1 == 0) = false := by simpa using hk
      rw [this]
      by_cases h0 : f.1 = 0
      · simp [h0]
      · simp [h0]
    | succ i =>
      simp only [List.set_cons_succ, List.getElem_cons_succ, List.countP_cons]
      have := ih (i := i) (by simpa using hi)
      simp only at this
      omega
/-- What holds of a runner's state all along. -/
structure Ok (js : List J) (a m : Nat) (s : St) : Prop where
  ran : ∀ i, 0 ≤ ranAt s i ∧ ranAt s i ≤ a
  tr : s.tr.length = a
  al : s.al.length + wt s ≤ m
theorem Ok.say {a m : Nat} (h : Ok js a m s) {i : Nat} {k t : Int} (hk : k ≠ 0) (hi : i < s.fs.length) : Ok js a m (say s i k t) ∧ wt (say s i k t) ≤ wt s ∧ (kdAt s i = 0 → wt (say s i k t) < wt s) := by
  have := wt_say s k t hk hi
  refine ⟨⟨h.ran, h.tr, ?_⟩, ?_, fun h0 => ?_⟩
  · have := h.al
    show s.al.length + wt (Dv.say s i k t) ≤ m
    omega
  · omega
  · rw [if_pos h0] at this; omega
theorem kd_say (s : St) (i j : Nat) (k t : Int) (h : i ≠ j) : kdAt (say s i k t) j = kdAt s j := by
  unfold kdAt say
  rw [List.getD_eq_getElem?_getD, List.getD_eq_getElem?_getD, List.getElem?_set_ne h]
theorem say_fs (s : St) (i : Nat) (k t : Int) : (say s i k t).fs.length = s.fs.length := by unfold say; simp
theorem lv_kd {i : Nat} (h : lv js s now i = true) : kdAt s i = 0 := by
  unfold lv at h
  simp at h
  exact h.2
theorem lives_mem {l : List Int} {x : Int} (h : x ∈ lives js s now l) : x ∈ l ∧ kdAt s x.toNat = 0 := by
  unfold lives at h
  rw [List.mem_filter] at h
  exact ⟨h.1, lv_kd h.2⟩
end
end Dv
end Go.Proofs.YtbgiegecfapmlaaGreatDoor

namespace Go.Proofs.YtbgiegecfapmlaaGreatDoor
open Go.RowKit
set_option linter.unusedVariables false
set_option linter.unusedSimpArgs false
namespace Dv
open Rob (own_below own_block_lt ob_mem blk_below below_drew J fc iv fc_len Goods relAt)
open Job (jc jv)
section
variable {w0 w w' : World} {d : Adr} {js : List J} {od : List Int} {s : St} {now : Int} {a : Nat}
theorem live_q (h : At w0.heap.size w d js od s now) {i : Nat} (hi : i < js.length) (m : Nat) :
    Calls Tryz.prog 143 #[.pointer (some ⟨d.p, 0, none⟩), .int .i64 (i : Int)] (w.drewN m) fun e w' => e = .returned (.bool (lv js s now i)) ∧ ∃ q, w' = w.drewN q :=
  (live_d (h.down (((Keeps.refl (fun _ => False) w).drewN m).below (fun _ _ h => h))) hi).mono fun _ _ ⟨he, n, hw⟩ => ⟨he, m + n, by rw [hw, World.drewN_drewN]⟩
set_option maxRecDepth 100000 in
set_option maxHeartbeats 4000000 in
theorem expire_is (hB : Below w0.heap.size w0 w) (h : At w0.heap.size w d js od s now) (ho : Ok js a 12 s) (hnow : 0 ≤ now ∧ now ≤ 100000) :
    Calls Tryz.prog 114 #[.pointer (some ⟨d.p, 0, none⟩)] w fun e w' => e = .returned (.tuple #[]) ∧ ∃ s', At w0.heap.size w' d js od s' now ∧ Ok js a 12 s' ∧ Below w0.heap.size w0 w' := by
  have b2 := h.B.cellAt (i := 2) rfl
  have H := Lib.hid h
  have HB := Lib.hid hB
  have HO := Lib.hid ho
  have HN := Lib.hid hnow
  have hn12 := h.n12
  clear h hB ho hnow
  go_enter Tryz.func114, Tryz.ntmps114
  go_wp2_with fail
  go_loopw [9] (fun i wr => ∃ (k : Nat) (z : St), k ≤ js.length ∧ i = .int .i64 (k : Int) ∧ At w0.heap.size wr d js od z now ∧ Ok js a 12 z ∧ Below w0.heap.size w0 wr) (fun i _ => js.length - (intOf i).toNat)
  case atStart => exact ⟨0, s, by omega, rfl, H.out, HO.out, HB.out⟩
  case round =>
    clear b2 H HB HO
    obtain ⟨k, z, hk, rfl, h, hz, B⟩ := hrel
    by_cases hlt : k < js.length
    · have hlti : (k : Int) < (js.length : Int) := by omega
      obtain ⟨b, off, x, hA, hx, hb, c0, c1, c2, c3, c4, c5, c6, c7⟩ := Job.cells8 h.JR hlt
      have hi0 : (0 : Int) ≤ (k : Int) := by omega
      have hi1 : (k : Int) + 1 ≤ 9223372036854775807 := by omega
      have X := Job.Box.of (Blk.new wr 36 (jc x))
      have B2 := B.alloc B.size (.cells (jc x).toArray 36)
      have h2 := h.down ((Below.refl wr.heap.size wr).alloc (Nat.le_refl _) (.cells (jc x).toArray 36))
      unfold jc at X B2 h2
      obtain ⟨x0, x1, x2, x3, x4, x5, x6, x7⟩ := X
      have b8 := h2.B.cellAt (i := 8) rfl
      have hop := fun m => live_q h2 hlt m
      have HZ := Lib.hid hz
      have HLF := Lib.hid (show k < z.fs.length by rw [h.lf]; exact hlt)
      have HGE := Lib.hid (h.ge d.gf (by simp [Adr.blocks]))
      rw [hA]
      clear hx hb B h x0 x1 x3 x4 x5 x6 x7 hz
      cases hlv : lv js z now k with
      | false =>
        rw [hlv] at hop
        have HOP := Lib.hid hop
        have H2 := Lib.hid h2
        clear hop hlv h2
        go_wp2_with fail
        go_quiet ((go_at_call 143; exact HOP.out _))
        have B3 := below_keeps B2 ((Keeps.refl (fun _ => False) _).drewN nq) B2.size (fun _ h => h.elim)
        have h3 := Lib.hid (H2.out.down (((Keeps.refl (fun _ => False) _).drewN nq).below (fun _ _ h => h)))
        go_wp2_with fail
        go_roundw
        case rel => exact ⟨k + 1, z, by omega, by simp, h3.out, HZ.out, B3⟩
        case measure => simp [intOf]; omega
      | true =>
        rw [hlv] at hop
        have HOP := Lib.hid hop
        have H2 := Lib.hid h2
        clear hop hlv h2
        by_cases hd : x.dl ≤ now
        · have q1 : decide (x.dl ≤ now) = true := decide_eq_true hd
          go_wp2_with fail
          go_quiet ((go_at_call 143; exact HOP.out _))
          have B3 := below_keeps B2 ((Keeps.refl (fun _ => False) _).drewN nq) B2.size (fun _ h => h.elim)
          have h3 := H2.out.down (((Keeps.refl (fun _ => False) _).drewN nq).below (fun _ _ h => h))
          have SI := say_is h3 hlt 5 0 (by have := HN.out; omega)
          rw [Int.add_zero] at SI
          have HB3 := Lib.hid B3
          clear B3 h3
          go_wp2_with fail
          refine SI.mono ?_
          rintro e w4 ⟨rfl, h4, k4⟩
          have H4 := Lib.hid h4
          have B4 := below_keeps HB3.out k4 HB3.out.size (fun i hi => by rw [hi]; exact HGE.out)
          clear h4 k4 SI
          go_wp2_with fail
          go_roundw
          case rel => exact ⟨k + 1, _, by omega, by simp, H4.out, (HZ.out.say (by decide) HLF.out).1, B4⟩
          case measure => simp [intOf]; omega
        · have q1 : decide (x.dl ≤ now) = false := decide_eq_false hd
          go_wp2_with fail
          go_quiet ((go_at_call 143; exact HOP.out _))
          have B3 := below_keeps B2 ((Keeps.refl (fun _ => False) _).drewN nq) B2.size (fun _ h => h.elim)
          have h3 := Lib.hid (H2.out.down (((Keeps.refl (fun _ => False) _).drewN nq).below (fun _ _ h => h)))
          go_wp2_with fail
          go_roundw
          case rel => exact ⟨k + 1, z, by omega, by simp, h3.out, HZ.out, B3⟩
          case measure => simp [intOf]; omega
    · have hlti : ¬ (k : Int) < (js.length : Int) := by omega
      have hh := Lib.hid h
      have HZ := Lib.hid hz
      clear h hz
      go_wp2_with fail
      go_end0
      exact ⟨rfl, z, hh.out, HZ.out, B⟩
/-- Is a job cleaned up? -/
def ab (js : List J) (s : St) (i : Nat) : Bool := match js[i]? with
  | some x => !decide (x.act ≤ x.bud) && decide (x.bud ≤ ranAt s i)
  | none => false
set_option maxRecDepth 100000 in
set_option maxHeartbeats 4000000 in
theorem aborted_is (h : At w0.heap.size w d js od s now) {i : Nat} (hi : i < js.length) :
    Calls Tryz.prog 145 #[.pointer (some ⟨d.p, 0, none⟩), .int .i64 (i : Int)] w fun e w' => e = .returned (.bool (ab js s i)) ∧ Below w.heap.size w w' := by
  obtain ⟨b, off, x, hA, hx, hb, c0, c1, c2, c3, c4, c5, c6, c7⟩ := Job.cells8 h.JR hi
  have b2 := h.B.cellAt (i := 2) rfl
  have b4 := h.B.cellAt (i := 4) rfl
  have d0 := h.R.cellAt (ran_get h hi)
  rw [hA] at b2
  have hi0 : (0 : Int) ≤ (i : Int) := by omega
  have hi1 : (i : Int) < (js.length : Int) := by omega
  have hab : ab js s i = (!decide (x.act ≤ x.bud) && decide (x.bud ≤ ranAt s i)) := by unfold ab; rw [hx]
  rw [hab]
  have CR := Job.runs_is x w.drew
  unfold jv at CR
  have HLT := Lib.hid (show d.p < w.heap.size ∧ d.gr < w.heap.size ∧ b < w.heap.size from ⟨h.B.lt, h.R.lt, hb⟩)
  clear h hA hx hb hab
  generalize ranAt s i = r at *
  generalize js.length = n at *
  by_cases h1 : x.act ≤ x.bud
  · rw [decide_eq_true h1] at CR ⊢
    go_enter Tryz.func145, Tryz.ntmps145
    go_wp2_with fail
    refine wp_region_held_drew (S := (fun W => W.cell? ⟨d.p, 2, none⟩ = some (.slice (some ⟨b, off, none⟩) n d.cj) ∧ W.cell? ⟨b, off + i * 8, none⟩ = some (.string x.nm) ∧ W.cell? ⟨b, off + i * 8 + 1, none⟩ = some (.int .i64 x.rel) ∧ W.cell? ⟨b, off + i * 8 + 2, none⟩ = some (.int .i64 x.dl) ∧ W.cell? ⟨b, off + i * 8 + 3, none⟩ = some (.int .i64 x.bud) ∧ W.cell? ⟨b, off + i * 8 + 4, none⟩ = some (.int .i64 x.act) ∧ W.cell? ⟨b, off + i * 8 + 5, none⟩ = some (.int .i64 x.val) ∧ W.cell? ⟨b, off + i * 8 + 6, none⟩ = some (.int .i64 x.cln) ∧ W.cell? ⟨b, off + i * 8 + 7, none⟩ = some (.bool x.hard))) (by kernel_rfl) ⟨b2, c0, c1, c2, c3, c4, c5, c6, c7⟩ (fun hHeld => ?_)
    refine wpAnyH_take (i := 0) (oi := ⟨some 5, _, _, _, _, _⟩) (v := ?_) rfl (by kernel_rfl) (by kernel_rfl) (by kernel_rfl) (fun _ _ _ h => h) (Or.inl ⟨by kernel_rfl, ?_⟩) (by assumption) ?_
    rotate_left
    · intro w hSw; (try dsimp only at hSw); obtain ⟨q1, q2, q3, q4, q5, q6, q7, q8, q9⟩ := hSw; go_simp; try with_reducible rfl
    rotate_left
    try simp only [Act.put, List.setIfInBounds_toArray, List.set_cons_zero, List.set_cons_succ]
    refine wpAnyH_take (i := 1) (oi := ⟨some 6, _, _, _, _, _⟩) (v := ?_) rfl (by kernel_rfl) (by kernel_rfl) (by kernel_rfl) (fun _ _ _ h => h) (Or.inl ⟨by kernel_rfl, ?_⟩) (by assumption) ?_
    rotate_left
    · intro w hSw; (try dsimp only at hSw); obtain ⟨q1, q2, q3, q4, q5, q6, q7, q8, q9⟩ := hSw; go_simp; try with_reducible rfl
    rotate_left
    try simp only [Act.put, List.setIfInBounds_toArray, List.set_cons_zero, List.set_cons_succ]
    refine wpAnyH_take (i := 2) (oi := ⟨some 7, _, _, _, _, _⟩) (v := ?_) rfl (by kernel_rfl) (by kernel_rfl) (by kernel_rfl) (fun _ _ _ h => h) (Or.inl ⟨by kernel_rfl, ?_⟩) (by assumption) ?_
    rotate_left
    · intro w hSw; (try dsimp only at hSw); obtain ⟨q1, q2, q3, q4, q5, q6, q7, q8, q9⟩ := hSw; go_simp; try with_reducible rfl
    rotate_left
    try simp only [Act.put, List.setIfInBounds_toArray, List.set_cons_zero, List.set_cons_succ]
    refine wpAnyH_take (i := 3) (oi := ⟨some 8, _, _, _, _, _⟩) (v := ?_) rfl (by kernel_rfl) (by kernel_rfl) (by kernel_rfl) (fun _ _ _ h => h) (Or.inl ⟨by kernel_rfl, ?_⟩) (by assumption) ?_
    rotate_left
    · intro w hSw; (try dsimp only at hSw); obtain ⟨q1, q2, q3, q4, q5, q6, q7, q8, q9⟩ := hSw; go_simp; try with_reducible rfl
    rotate_left
    try simp only [Act.put, List.setIfInBounds_toArray, List.set_cons_zero, List.set_cons_succ]
    refine wpAnyH_take (i := 4) (oi := ⟨some 9, _, _, _, _, _⟩) (v := ?_) rfl (by kernel_rfl) (by kernel_rfl) (by kernel_rfl) (fun _ _ _ h => h) (Or.inl ⟨by kernel_rfl, ?_⟩) (by assumption) ?_
    rotate_left
    · intro w hSw; (try dsimp only at hSw); obtain ⟨q1, q2, q3, q4, q5, q6, q7, q8, q9⟩ := hSw; go_simp; try with_reducible rfl
    rotate_left
    try simp only [Act.put, List.setIfInBounds_toArray, List.set_cons_zero, List.set_cons_succ]
    refine wpAnyH_take (i := 5) (oi := ⟨some 10, _, _, _, _, _⟩) (v := ?_) rfl (by kernel_rfl) (by kernel_rfl) (by kernel_rfl) (fun _ _ _ h => h) (Or.inl ⟨by kernel_rfl, ?_⟩) (by assumption) ?_
    rotate_left
    · intro w hSw; (try dsimp only at hSw); obtain ⟨q1, q2, q3, q4, q5, q6, q7, q8, q9⟩ := hSw; go_simp; try with_reducible rfl
    rotate_left
    try simp only [Act.put, List.setIfInBounds_toArray, List.set_cons_zero, List.set_cons_succ]
    refine wpAnyH_take (i := 6) (oi := ⟨some 11, _, _, _, _, _⟩) (v := ?_) rfl (by kernel_rfl) (by kernel_rfl) (by kernel_rfl) (fun _ _ _ h => h) (Or.inl ⟨by kernel_rfl, ?_⟩) (by assumption) ?_
    rotate_left
    · intro w hSw; (try dsimp only at hSw); obtain ⟨q1, q2, q3, q4, q5, q6, q7, q8, q9⟩ := hSw; go_simp; try with_reducible rfl
    rotate_left
    try simp only [Act.put, List.setIfInBounds_toArray, List.set_cons_zero, List.set_cons_succ]
    refine wpAnyH_ready (rs := [7]) (by kernel_rfl) (by simp) ?_
    refine AllReadyH.cons (o := ⟨some 12, _, _, _, _, _⟩) rfl (fun K hK => ?_) AllReadyH.nil
    go_simp
    refine CR.mono ?_
    rintro e w2 ⟨rfl, hb⟩
    have hb5 := (below_drew w).trans (hb.mono (Nat.le_refl _))
    have y2 := (hb5.cell HLT.out.1).trans b2
    have e0 := (hb5.cell HLT.out.2.2).trans c0
    have e1 := (hb5.cell HLT.out.2.2).trans c1
    have e2 := (hb5.cell HLT.out.2.2).trans c2
    have e3 := (hb5.cell HLT.out.2.2).trans c3
    have e4 := (hb5.cell HLT.out.2.2).trans c4
    have e5 := (hb5.cell HLT.out.2.2).trans c5
    have e6 := (hb5.cell HLT.out.2.2).trans c6
    have e7 := (hb5.cell HLT.out.2.2).trans c7
    go_wp2_with fail
    refine hK.out _ _ ⟨y2, e0, e1, e2, e3, e4, e5, e6, e7⟩ (fun hHeld => ?_)
    clear hK K
    try simp only [Act.put, List.setIfInBounds_toArray, List.set_cons_zero, List.set_cons_succ]
    refine wpAnyH_take (i := 8) (oi := ⟨some 13, _, _, _, _, _⟩) (v := ?_) rfl (by kernel_rfl) (by kernel_rfl) (by kernel_rfl) (fun _ _ _ h => h) (Or.inl ⟨by kernel_rfl, ?_⟩) (by assumption) ?_
    rotate_left
    · intro w hSw; (try dsimp only at hSw); obtain ⟨q1, q2, q3, q4, q5, q6, q7, q8, q9⟩ := hSw; go_simp; try with_reducible rfl
    rotate_left
    try simp only [Act.put, List.setIfInBounds_toArray, List.set_cons_zero, List.set_cons_succ]
    refine wpAnyH_take (i := 9) (oi := ⟨some 14, _, _, _, _, _⟩) (v := ?_) rfl (by kernel_rfl) (by kernel_rfl) (by kernel_rfl) (fun _ _ _ h => h) (Or.inl ⟨by kernel_rfl, ?_⟩) (by assumption) ?_
    rotate_left
    · intro w hSw; (try dsimp only at hSw); obtain ⟨q1, q2, q3, q4, q5, q6, q7, q8, q9⟩ := hSw; go_simp; try with_reducible rfl
    rotate_left
    try simp only [Act.put, List.setIfInBounds_toArray, List.set_cons_zero, List.set_cons_succ]
    refine wpAnyH_take (i := 10) (oi := ⟨some 15, _, _, _, _, _⟩) (v := undef) rfl (by kernel_rfl) (by kernel_rfl) (by kernel_rfl) (fun _ _ _ h => h) (Or.inr ⟨by kernel_rfl, rfl⟩) (by assumption) ?_
    try simp only [Act.put, List.setIfInBounds_toArray, List.set_cons_zero, List.set_cons_succ]
    refine wpAnyH_take (i := 11) (oi := ⟨some 16, _, _, _, _, _⟩) (v := undef) rfl (by kernel_rfl) (by kernel_rfl) (by kernel_rfl) (fun _ _ _ h => h) (Or.inr ⟨by kernel_rfl, rfl⟩) (by assumption) ?_
    try simp only [Act.put, List.setIfInBounds_toArray, List.set_cons_zero, List.set_cons_succ]
    refine wpAnyH_take (i := 12) (oi := ⟨some 17, _, _, _, _, _⟩) (v := undef) rfl (by kernel_rfl) (by kernel_rfl) (by kernel_rfl) (fun _ _ _ h => h) (Or.inr ⟨by kernel_rfl, rfl⟩) (by assumption) ?_
    try simp only [Act.put, List.setIfInBounds_toArray, List.set_cons_zero, List.set_cons_succ]
    refine wpAnyH_take (i := 13) (oi := ⟨some 18, _, _, _, _, _⟩) (v := undef) rfl (by kernel_rfl) (by kernel_rfl) (by kernel_rfl) (fun _ _ _ h => h) (Or.inr ⟨by kernel_rfl, rfl⟩) (by assumption) ?_
    try simp only [Act.put, List.setIfInBounds_toArray, List.set_cons_zero, List.set_cons_succ]
    refine wpAnyH_take (i := 14) (oi := ⟨some 19, _, _, _, _, _⟩) (v := undef) rfl (by kernel_rfl) (by kernel_rfl) (by kernel_rfl) (fun _ _ _ h => h) (Or.inr ⟨by kernel_rfl, rfl⟩) (by assumption) ?_
    try simp only [Act.put, List.setIfInBounds_toArray, List.set_cons_zero, List.set_cons_succ]
    refine wpAnyH_take (i := 15) (oi := ⟨some 20, _, _, _, _, _⟩) (v := undef) rfl (by kernel_rfl) (by kernel_rfl) (by kernel_rfl) (fun _ _ _ h => h) (Or.inr ⟨by kernel_rfl, rfl⟩) (by assumption) ?_
    try simp only [Act.put, List.setIfInBounds_toArray, List.set_cons_zero, List.set_cons_succ]
    refine wpAnyH_take (i := 16) (oi := ⟨some 21, _, _, _, _, _⟩) (v := undef) rfl (by kernel_rfl) (by kernel_rfl) (by kernel_rfl) (fun _ _ _ h => h) (Or.inr ⟨by kernel_rfl, rfl⟩) (by assumption) ?_
    try simp only [Act.put, List.setIfInBounds_toArray, List.set_cons_zero, List.set_cons_succ]
    refine wpAnyH_take (i := 17) (oi := ⟨some 22, _, _, _, _, _⟩) (v := undef) rfl (by kernel_rfl) (by kernel_rfl) (by kernel_rfl) (fun _ _ _ h => h) (Or.inr ⟨by kernel_rfl, rfl⟩) (by assumption) ?_
    try simp only [Act.put, List.setIfInBounds_toArray, List.set_cons_zero, List.set_cons_succ]
    refine wpAnyH_take (i := 18) (oi := ⟨some 23, _, _, _, _, _⟩) (v := undef) rfl (by kernel_rfl) (by kernel_rfl) (by kernel_rfl) (fun _ _ _ h => h) (Or.inr ⟨by kernel_rfl, rfl⟩) (by assumption) ?_
    try simp only [Act.put, List.setIfInBounds_toArray, List.set_cons_zero, List.set_cons_succ]
    refine wpAnyH_take (i := 19) (oi := ⟨some 24, _, _, _, _, _⟩) (v := undef) rfl (by kernel_rfl) (by kernel_rfl) (by kernel_rfl) (fun _ _ _ h => h) (Or.inr ⟨by kernel_rfl, rfl⟩) (by assumption) ?_
    try simp only [Act.put, List.setIfInBounds_toArray, List.set_cons_zero, List.set_cons_succ]
    refine wpAnyH_take (i := 20) (oi := ⟨some 25, _, _, _, _, _⟩) (v := undef) rfl (by kernel_rfl) (by kernel_rfl) (by kernel_rfl) (fun _ _ _ h => h) (Or.inr ⟨by kernel_rfl, rfl⟩) (by assumption) ?_
    try simp only [Act.put, List.setIfInBounds_toArray, List.set_cons_zero, List.set_cons_succ]
    refine wpAnyH_take (i := 21) (oi := ⟨some 26, _, _, _, _, _⟩) (v := undef) rfl (by kernel_rfl) (by kernel_rfl) (by kernel_rfl) (fun _ _ _ h => h) (Or.inr ⟨by kernel_rfl, rfl⟩) (by assumption) ?_
    try simp only [Act.put, List.setIfInBounds_toArray, List.set_cons_zero, List.set_cons_succ]
    refine wpAnyH_take (i := 22) (oi := ⟨some 27, _, _, _, _, _⟩) (v := undef) rfl (by kernel_rfl) (by kernel_rfl) (by kernel_rfl) (fun _ _ _ h => h) (Or.inr ⟨by kernel_rfl, rfl⟩) (by assumption) ?_
    try simp only [Act.put, List.setIfInBounds_toArray, List.set_cons_zero, List.set_cons_succ]
    refine wpAnyH_take (i := 23) (oi := ⟨some 28, _, _, _, _, _⟩) (v := undef) rfl (by kernel_rfl) (by kernel_rfl) (by kernel_rfl) (fun _ _ _ h => h) (Or.inr ⟨by kernel_rfl, rfl⟩) (by assumption) ?_
    try simp only [Act.put, List.setIfInBounds_toArray, List.set_cons_zero, List.set_cons_succ]
    refine wpAnyH_take (i := 24) (oi := ⟨some 29, _, _, _, _, _⟩) (v := undef) rfl (by kernel_rfl) (by kernel_rfl) (by kernel_rfl) (fun _ _ _ h => h) (Or.inr ⟨by kernel_rfl, rfl⟩) (by assumption) ?_
    try simp only [Act.put, List.setIfInBounds_toArray, List.set_cons_zero, List.set_cons_succ]
    refine wpAnyH_take (i := 25) (oi := ⟨some 30, _, _, _, _, _⟩) (v := undef) rfl (by kernel_rfl) (by kernel_rfl) (by kernel_rfl) (fun _ _ _ h => h) (Or.inr ⟨by kernel_rfl, rfl⟩) (by assumption) ?_
    try simp only [Act.put, List.setIfInBounds_toArray, List.set_cons_zero, List.set_cons_succ]
    refine wpAnyH_take (i := 26) (oi := ⟨some 31, _, _, _, _, _⟩) (v := ?_) rfl (by kernel_rfl) (by kernel_rfl) (by kernel_rfl) (fun _ _ _ h => h) (Or.inl ⟨by kernel_rfl, ?_⟩) (by assumption) ?_
    rotate_left
    · intro w hSw; (try dsimp only at hSw); obtain ⟨q1, q2, q3, q4, q5, q6, q7, q8, q9⟩ := hSw; go_simp; try with_reducible rfl
    rotate_left
    try simp only [Act.put, List.setIfInBounds_toArray, List.set_cons_zero, List.set_cons_succ]
    refine wpAnyH_take (i := 27) (oi := ⟨some 4, _, _, _, _, _⟩) (v := ?_) rfl (by kernel_rfl) (by kernel_rfl) (by kernel_rfl) (fun _ _ _ h => h) (Or.inl ⟨by kernel_rfl, ?_⟩) (by assumption) ?_
    rotate_left
    · intro w hSw; (try dsimp only at hSw); obtain ⟨q1, q2, q3, q4, q5, q6, q7, q8, q9⟩ := hSw; go_simp; try with_reducible rfl
    rotate_left
    try simp only [Act.put, List.setIfInBounds_toArray, List.set_cons_zero, List.set_cons_succ]
    refine wpAnyH_done (by kernel_rfl) ?_ _
    go_wp2_with fail
    go_ret
    exact ⟨by simp, hb5⟩
  · rw [decide_eq_false h1] at CR ⊢
    obtain ⟨q, hq⟩ : ∃ q, decide (x.bud ≤ r) = q := ⟨_, rfl⟩
    go_enter Tryz.func145, Tryz.ntmps145
    go_wp2_with fail
    go_region_held3 (fun W => W.cell? ⟨d.p, 2, none⟩ = some (.slice (some ⟨b, off, none⟩) n d.cj) ∧ W.cell? ⟨d.p, 4, none⟩ = some (.slice (some ⟨d.gr, 0, none⟩) n d.cr) ∧ W.cell? ⟨d.gr, i, none⟩ = some (.int .i64 r) ∧ W.cell? ⟨b, off + i * 8, none⟩ = some (.string x.nm) ∧ W.cell? ⟨b, off + i * 8 + 1, none⟩ = some (.int .i64 x.rel) ∧ W.cell? ⟨b, off + i * 8 + 2, none⟩ = some (.int .i64 x.dl) ∧ W.cell? ⟨b, off + i * 8 + 3, none⟩ = some (.int .i64 x.bud) ∧ W.cell? ⟨b, off + i * 8 + 4, none⟩ = some (.int .i64 x.act) ∧ W.cell? ⟨b, off + i * 8 + 5, none⟩ = some (.int .i64 x.val) ∧ W.cell? ⟨b, off + i * 8 + 6, none⟩ = some (.int .i64 x.cln) ∧ W.cell? ⟨b, off + i * 8 + 7, none⟩ = some (.bool x.hard)) (first | exact ⟨b2, b4, d0, c0, c1, c2, c3, c4, c5, c6, c7⟩ | exact ⟨y2, y4, yr, e0, e1, e2, e3, e4, e5, e6, e7⟩) (first | (go_at_call 70; refine CR.mono ?_; rintro e w2 ⟨rfl, hb⟩; have hb5 := (below_drew w).trans (hb.mono (Nat.le_refl _)); have y2 := (hb5.cell HLT.out.1).trans b2; have y4 := (hb5.cell HLT.out.1).trans b4; have yr := (hb5.cell HLT.out.2.1).trans d0; have e0 := (hb5.cell HLT.out.2.2).trans c0; have e1 := (hb5.cell HLT.out.2.2).trans c1; have e2 := (hb5.cell HLT.out.2.2).trans c2; have e3 := (hb5.cell HLT.out.2.2).trans c3; have e4 := (hb5.cell HLT.out.2.2).trans c4; have e5 := (hb5.cell HLT.out.2.2).trans c5; have e6 := (hb5.cell HLT.out.2.2).trans c6; have e7 := (hb5.cell HLT.out.2.2).trans c7))
    go_wp2_with fail
    go_ret
    exact ⟨by simp [hq], hb5⟩
end
end Dv
end Go.Proofs.YtbgiegecfapmlaaGreatDoor
