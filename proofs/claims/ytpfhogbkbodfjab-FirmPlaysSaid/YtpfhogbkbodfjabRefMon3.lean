/- The reference's Monitor: May; conditions: 1 ≤ k ≤ 64, at most 190 were told. -/
import Derived.Test.YtpfhogbkbodfjabRefMon2
import Derived.Deep.DeepCutAuto
namespace Go.Proofs.Ytpfhogbkbodfjab
open Go.RowKit
set_option linter.unusedVariables false
set_option linter.unusedSimpArgs false
namespace RefMon
open Win
/-- A copy of its own. -/
def Copy (w : World) (m k : Nat) (xs : List Bool) (v : Value) (wx : World) : Prop :=
  ∃ (qx : Nat) (G : Nat → Prop), v = .pointer (some ⟨qx, 0, none⟩) ∧ Is wx qx G m k xs ∧ (∀ b, G b → w.heap.size ≤ b) ∧ Below w.heap.size w wx
theorem copy_of {w w1 : World} {m k c1 : Nat} {A1 : Option Addr} {xs : List Bool} (own : w1.ownsRow w.heap.size 4 1 (.slice A1 xs.length c1) xs.length (xs.map Value.bool)) (B : Below w.heap.size w w1) :
    Copy w m k xs (.pointer (some ⟨w1.heap.size, 0, none⟩)) (w1.alloc (.cells #[.int .i64 (m : Int), .int .i64 (k : Int), .slice A1 xs.length c1] 110)) := by
  refine ⟨w1.heap.size, Foot w1.heap.size A1, rfl, ⟨A1, c1, ⟨Blk.new w1 _ [_, _, _], (Has.of_own own).kept ((Keeps.refl (fun _ => False) _).alloc _) (fun _ _ _ _ h => h)⟩, rfl⟩, ?_, B.alloc B.size _⟩
  rintro b (rfl | hb)
  · exact B.size
  · exact (own.lt b ((own_same A1 _ _ _ _).trans hb)).1
theorem Copy.drew {w wx : World} {m k : Nat} {xs : List Bool} {v : Value} (h : Copy w m k xs v wx) : Copy w m k xs v wx.drew := by
  obtain ⟨qx, G, hv, hi, hG, B⟩ := h
  exact ⟨qx, G, hv, hi.stay ((Keeps.refl _ _).drew), hG, ⟨B.os, B.tape, B.output, B.size, B.block⟩⟩
/-- What holds at each round of May. -/
def MInv (w : World) (qx m k : Nat) (xs : List Bool) (N : Nat) (i : Value) (wr : World) : Prop :=
  ∃ (j : Nat) (G : Nat → Prop), j ≤ N ∧ i = .int .i64 (j : Int) ∧ Is wr qx G m k (xs ++ List.replicate j false) ∧ may m k xs j = true ∧ (∀ b, G b → w.heap.size ≤ b) ∧ Below w.heap.size w wr
set_option maxRecDepth 100000 in
set_option maxHeartbeats 4000000 in
theorem may_le {q m k : Nat} {F : Nat → Prop} {xs : List Bool} {w : World} (n : Int) (h : Is w q F m k xs) (h1 : 1 ≤ k) (h2 : k ≤ 64) (hl : xs.length ≤ 190) (hn : n ≤ 100) :
    Calls Try.prog 71 #[.pointer (some ⟨q, 0, none⟩), .int .i64 n] w fun e w' => e = .returned (.bool (may m k xs n.toNat)) ∧ Keeps (fun _ => False) w w' := by
  obtain ⟨i0, hi0, hz0, hz1, hz2⟩ := info_parts infoB
  obtain ⟨A, c, ha, _⟩ := h
  have c0 := ha.Bl.cellAt (i := 0) rfl
  have c1 := ha.Bl.cellAt (i := 1) rfl
  have c2 := ha.Bl.cellAt (i := 2) rfl
  have hb := ha.Bl
  have hh := ha.L
  have hql := ha.Bl.lt
  have ha1 := ha.Bl.alloc (.cells #[] 4)
  have a0 : (w.alloc (.cells #[] 4)).cell? ⟨q, 0, none⟩ = some (.int .i64 (m : Int)) := ha1.cellAt (i := 0) rfl
  have a1 : (w.alloc (.cells #[] 4)).cell? ⟨q, 1, none⟩ = some (.int .i64 (k : Int)) := ha1.cellAt (i := 1) rfl
  have a2 : (w.alloc (.cells #[] 4)).cell? ⟨q, 2, none⟩ = some (.slice A xs.length c) := ha1.cellAt (i := 2) rfl
  have b1 : 0 + xs.length ≤ maxLen := by unfold maxLen; omega
  have b2 : (0 + xs.length) * 1 ≤ 140737488355328 := by omega
  have b3 : w.heap.size ≤ (w.alloc (.cells #[] 4)).drew.heap.size := by simp
  have hlen : (xs.map Value.bool).length = xs.length := List.length_map ..
  have HLEN := Lib.hid hlen
  clear hlen ha
  go_enter Try.func71, Try.ntmps71
  go_upto_region 3 with fail
  go_cut [5] (fun v wx => Copy w m k xs v wx)
  case first =>
    go_region_law (refine step_append_has rfl (.tmp 17) (.tmp 21) 32 rfl i0 _ 1 Try.underlying32 hi0 hz0 hz1 hz2 rfl (by decide) (by simp [Act.eval, Act.put]) (own_empty w w.heap.size 4 1 (Nat.le_refl _)).drew A xs.length c (xs.map Value.bool) (by simp [Act.eval, Act.put]) (by have := hh.kept ((Keeps.refl (fun _ => False) w).alloc (.cells #[] 4)) (fun _ _ _ _ h => h); exact this) (bools_one _) b1 b2 b3 ?_; intro v1 w1 own1 g1 at1; simp only [Nat.zero_add, List.nil_append] at own1; obtain ⟨A1, e1, hv1⟩ := own_shape own1; subst hv1; have G1 : (w.alloc (.cells #[] 4)).grownBy w1 (Value.slice (some ⟨w.heap.size, 0, none⟩) 0 0).ownBlock := ⟨g1.os, g1.tape, g1.output, g1.size, g1.block⟩; have K1 : Keeps (fun _ => False) w w1 := keeps_grown ((Keeps.refl _ _).alloc _) G1 (fun g h => .inr (Nat.le_of_eq (slice_block h))); have hb1 := ha1.grown G1 (fun h => by have := slice_block h; omega); have d0 := hb1.cellAt (i := 0) rfl; have d1 := hb1.cellAt (i := 1) rfl; have CC : Copy w m k xs (.pointer (some ⟨w1.heap.size, 0, none⟩)) (w1.alloc (.cells #[.int .i64 (m : Int), .int .i64 (k : Int), .slice A1 xs.length e1] 110)) := (copy_of own1 (K1.below (fun _ _ h => h))); clear g1 at1 G1 own1)
    all_goals (go_wp2_with fail; go_meet; first | exact CC | exact CC.drew)
  case rest =>
    clear c0 c1 c2 a0 a1 a2 ha1 hb hh hql b1 b2 b3 hi0 hz0 hz1 hz2
    obtain ⟨qx, G, rfl, Q0, HG0, B0⟩ := hcut
    go_wp2_with fail
    go_loopw [6] (fun i wr => MInv w qx m k xs n.toNat i wr) (fun i _ => n.toNat - (intOf i).toNat)
    case atStart => exact ⟨0, G, Nat.zero_le _, rfl, by simpa using Q0, rfl, HG0, B0⟩
    case round =>
      clear Q0 HG0 B0
      obtain ⟨j, G1, hj, rfl, Q, hmay, HG, B⟩ := hrel
      by_cases hlt : j < n.toNat
      · have hQ := fun W (h : Is W qx G1 m k (xs ++ List.replicate j false)) => add_is false h h1 h2 (by simp; omega)
        rw [← more] at hQ
        obtain ⟨b, hb⟩ : ∃ b, bad m k (xs ++ List.replicate (j + 1) false) = b := ⟨_, rfl⟩
        rw [hb] at hQ
        have hm2 : may m k xs (j + 1) = !b := by simp only [may]; rw [hb, hmay]; rfl
        have HM := Lib.hid hm2
        have HQ := Lib.hid hQ
        have hltI : (j : Int) < n := by omega
        clear hQ hb hm2 hmay
        cases b with
        | true =>
          have HF : Hid (may m k xs n.toNat = false) := Lib.hid (may_down m k xs (j + 1) n.toNat HM.out hlt)
          go_wp2_with fail
          refine (HQ.out _ Q).mono ?_
          rintro e w5 ⟨rfl, _, k5⟩
          have B5 := below_keeps B k5 B.size HG
          clear Q B k5 HG
          simp only [Bool.not_true]
          go_wp2_with fail
          go_ret
          exact ⟨by rw [HF.out]; rfl, Keeps.of_below B5⟩
        | false =>
          go_wp2_with fail
          refine (HQ.out _ Q).mono ?_
          rintro e w5 ⟨rfl, ⟨F5, Q5, f5⟩, k5⟩
          have B5 := below_keeps B k5 B.size HG
          have HF5 : ∀ b, F5 b → w.heap.size ≤ b := fun b hb => (f5 b hb).elim (HG b) (fun h => Nat.le_trans B.size h)
          clear Q B k5 f5 HG
          simp only [Bool.not_false]
          go_wp2_with fail
          go_roundw
          case rel => exact ⟨j + 1, F5, hlt, by go_num, Q5, by rw [HM.out]; rfl, HF5, B5⟩
          case measure => simp [intOf]; omega
      · obtain rfl : j = n.toNat := by omega
        have hltI : ¬ ((n.toNat : Nat) : Int) < n := by omega
        have HM := Lib.hid hmay
        clear hmay
        go_wp2_with fail
        go_ret
        exact ⟨by rw [HM.out]; rfl, Keeps.of_below B⟩
set_option maxRecDepth 100000 in
set_option maxHeartbeats 4000000 in
theorem may_big {q m k : Nat} {F : Nat → Prop} {xs : List Bool} {w : World} (n : Int) (h : Is w q F m k xs) (h1 : 1 ≤ k) (h2 : k ≤ 64) (hl : xs.length ≤ 190) (hn : 100 < n) :
    Calls Try.prog 71 #[.pointer (some ⟨q, 0, none⟩), .int .i64 n] w fun e w' => e = .returned (.bool (may m k xs 100)) ∧ Keeps (fun _ => False) w w' := by
  obtain ⟨i0, hi0, hz0, hz1, hz2⟩ := info_parts infoB
  obtain ⟨A, c, ha, _⟩ := h
  have c0 := ha.Bl.cellAt (i := 0) rfl
  have c1 := ha.Bl.cellAt (i := 1) rfl
  have c2 := ha.Bl.cellAt (i := 2) rfl
  have hb := ha.Bl
  have hh := ha.L
  have hql := ha.Bl.lt
  have ha1 := ha.Bl.alloc (.cells #[] 4)
  have a0 : (w.alloc (.cells #[] 4)).cell? ⟨q, 0, none⟩ = some (.int .i64 (m : Int)) := ha1.cellAt (i := 0) rfl
  have a1 : (w.alloc (.cells #[] 4)).cell? ⟨q, 1, none⟩ = some (.int .i64 (k : Int)) := ha1.cellAt (i := 1) rfl
  have a2 : (w.alloc (.cells #[] 4)).cell? ⟨q, 2, none⟩ = some (.slice A xs.length c) := ha1.cellAt (i := 2) rfl
  have b1 : 0 + xs.length ≤ maxLen := by unfold maxLen; omega
  have b2 : (0 + xs.length) * 1 ≤ 140737488355328 := by omega
  have b3 : w.heap.size ≤ (w.alloc (.cells #[] 4)).drew.heap.size := by simp
  have hlen : (xs.map Value.bool).length = xs.length := List.length_map ..
  have HLEN := Lib.hid hlen
  clear hlen ha
  go_enter Try.func71, Try.ntmps71
  go_upto_region 3 with fail
  go_cut [5] (fun v wx => Copy w m k xs v wx)
  case first =>
    go_region_law (refine step_append_has rfl (.tmp 17) (.tmp 21) 32 rfl i0 _ 1 Try.underlying32 hi0 hz0 hz1 hz2 rfl (by decide) (by simp [Act.eval, Act.put]) (own_empty w w.heap.size 4 1 (Nat.le_refl _)).drew A xs.length c (xs.map Value.bool) (by simp [Act.eval, Act.put]) (by have := hh.kept ((Keeps.refl (fun _ => False) w).alloc (.cells #[] 4)) (fun _ _ _ _ h => h); exact this) (bools_one _) b1 b2 b3 ?_; intro v1 w1 own1 g1 at1; simp only [Nat.zero_add, List.nil_append] at own1; obtain ⟨A1, e1, hv1⟩ := own_shape own1; subst hv1; have G1 : (w.alloc (.cells #[] 4)).grownBy w1 (Value.slice (some ⟨w.heap.size, 0, none⟩) 0 0).ownBlock := ⟨g1.os, g1.tape, g1.output, g1.size, g1.block⟩; have K1 : Keeps (fun _ => False) w w1 := keeps_grown ((Keeps.refl _ _).alloc _) G1 (fun g h => .inr (Nat.le_of_eq (slice_block h))); have hb1 := ha1.grown G1 (fun h => by have := slice_block h; omega); have d0 := hb1.cellAt (i := 0) rfl; have d1 := hb1.cellAt (i := 1) rfl; have CC : Copy w m k xs (.pointer (some ⟨w1.heap.size, 0, none⟩)) (w1.alloc (.cells #[.int .i64 (m : Int), .int .i64 (k : Int), .slice A1 xs.length e1] 110)) := (copy_of own1 (K1.below (fun _ _ h => h))); clear g1 at1 G1 own1)
    all_goals (go_wp2_with fail; go_meet; first | exact CC | exact CC.drew)
  case rest =>
    clear c0 c1 c2 a0 a1 a2 ha1 hb hh hql b1 b2 b3 hi0 hz0 hz1 hz2
    obtain ⟨qx, G, rfl, Q0, HG0, B0⟩ := hcut
    go_wp2_with fail
    go_loopw [6] (fun i wr => MInv w qx m k xs 100 i wr) (fun i _ => 100 - (intOf i).toNat)
    case atStart => exact ⟨0, G, Nat.zero_le _, rfl, by simpa using Q0, rfl, HG0, B0⟩
    case round =>
      clear Q0 HG0 B0
      obtain ⟨j, G1, hj, rfl, Q, hmay, HG, B⟩ := hrel
      by_cases hlt : j < 100
      · have hQ := fun W (h : Is W qx G1 m k (xs ++ List.replicate j false)) => add_is false h h1 h2 (by simp; omega)
        rw [← more] at hQ
        obtain ⟨b, hb⟩ : ∃ b, bad m k (xs ++ List.replicate (j + 1) false) = b := ⟨_, rfl⟩
        rw [hb] at hQ
        have hm2 : may m k xs (j + 1) = !b := by simp only [may]; rw [hb, hmay]; rfl
        have HM := Lib.hid hm2
        have HQ := Lib.hid hQ
        have hltI : (j : Int) < 100 := by omega
        clear hQ hb hm2 hmay
        cases b with
        | true =>
          have HF : Hid (may m k xs 100 = false) := Lib.hid (may_down m k xs (j + 1) 100 HM.out hlt)
          go_wp2_with fail
          refine (HQ.out _ Q).mono ?_
          rintro e w5 ⟨rfl, _, k5⟩
          have B5 := below_keeps B k5 B.size HG
          clear Q B k5 HG
          simp only [Bool.not_true]
          go_wp2_with fail
          go_ret
          exact ⟨by rw [HF.out]; rfl, Keeps.of_below B5⟩
        | false =>
          go_wp2_with fail
          refine (HQ.out _ Q).mono ?_
          rintro e w5 ⟨rfl, ⟨F5, Q5, f5⟩, k5⟩
          have B5 := below_keeps B k5 B.size HG
          have HF5 : ∀ b, F5 b → w.heap.size ≤ b := fun b hb => (f5 b hb).elim (HG b) (fun h => Nat.le_trans B.size h)
          clear Q B k5 f5 HG
          simp only [Bool.not_false]
          go_wp2_with fail
          go_roundw
          case rel => exact ⟨j + 1, F5, hlt, by go_num, Q5, by rw [HM.out]; rfl, HF5, B5⟩
          case measure => simp [intOf]; omega
      · obtain rfl : j = 100 := by omega
        have hltI : ¬ ((100 : Nat) : Int) < 100 := by omega
        have HM := Lib.hid hmay
        clear hmay
        go_wp2_with fail
        go_ret
        exact ⟨by rw [HM.out]; rfl, Keeps.of_below B⟩
theorem may_is {q m k : Nat} {F : Nat → Prop} {xs : List Bool} {w : World} (n : Int) (h : Is w q F m k xs) (h1 : 1 ≤ k) (h2 : k ≤ 64) (hl : xs.length ≤ 190) :
    Calls Try.prog 71 #[.pointer (some ⟨q, 0, none⟩), .int .i64 n] w fun e w' => e = .returned (.bool (may m k xs (min n.toNat 100))) ∧ Keeps (fun _ => False) w w' := by
  by_cases hn : n ≤ 100
  · rw [show min n.toNat 100 = n.toNat by omega]
    exact may_le n h h1 h2 hl hn
  · rw [show min n.toNat 100 = 100 by omega]
    exact may_big n h h1 h2 hl (by omega)
end RefMon
end Go.Proofs.Ytpfhogbkbodfjab
