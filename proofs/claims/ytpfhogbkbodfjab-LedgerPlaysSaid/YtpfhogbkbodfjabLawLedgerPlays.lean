/- The law LedgerPlays returns true at every input and leaves its arguments alone. Conditions: none. -/
import Derived.Test.YtpfhogbkbodfjabRefLed2
import Derived.Test.YtpfhogbkbodfjabAct14
import Derived.Deep.RegionHeld3
namespace Go.Proofs.Ytpfhogbkbodfjab
open Go.RowKit Go.ChangeShapes Go.WideShapes Go.ChangeAt Go.Deep
set_option linter.unusedVariables false
set_option linter.unusedSimpArgs false
namespace LedgerPlays
open Led
/-- The program's Ledger and the reference's, with the same rows. -/
structure Mem (w : World) (p q : Nat) (F G : Nat → Prop) (xs ys : List LRow) (wr : World) : Prop where
  P : Led.Is wr p F xs
  Q : RefLed.Is wr q G ys
  bF : ∀ b, F b → w.heap.size ≤ b
  bG : ∀ b, G b → w.heap.size ≤ b
  dj : ∀ b, F b → ¬ G b
  B : Below w.heap.size w wr
  z : w.heap.size ≤ wr.heap.size
section
variable {w : World} {p q : Nat} {F G : Nat → Prop} {xs ys : List LRow} {w1 w2 : World}
theorem Mem.keep (h : Mem w p q F G xs ys w1) (k : Keeps (fun _ => False) w1 w2) : Mem w p q F G xs ys w2 :=
  ⟨h.P.stay k, h.Q.stay k, h.bF, h.bG, h.dj, below_keeps h.B k h.z (fun _ h => h.elim), Nat.le_trans h.z k.size⟩
theorem Mem.onP (h : Mem w p q F G xs ys w1) {F' : Nat → Prop} {xs' : List LRow} (k : Keeps F w1 w2) (hI : Led.Is w2 p F' xs') (hF : ∀ b, F' b → F b ∨ w1.heap.size ≤ b) : Mem w p q F' G xs' ys w2 :=
  ⟨hI, h.Q.kept k (fun b hb hf => h.dj b hf hb), fun b hb => (hF b hb).elim (h.bF b) (fun h' => Nat.le_trans h.z h'), h.bG,
    fun b hb hg => (hF b hb).elim (fun hf => h.dj b hf hg) (fun h' => by have := h.Q.lt b hg; omega), below_keeps h.B k h.z h.bF, Nat.le_trans h.z k.size⟩
theorem Mem.onQ (h : Mem w p q F G xs ys w1) {G' : Nat → Prop} {ys' : List LRow} (k : Keeps G w1 w2) (hI : RefLed.Is w2 q G' ys') (hG : ∀ b, G' b → G b ∨ w1.heap.size ≤ b) : Mem w p q F G' xs ys' w2 :=
  ⟨h.P.kept k (fun b hb hf => h.dj b hb hf), hI, h.bF, fun b hb => (hG b hb).elim (h.bG b) (fun h' => Nat.le_trans h.z h'),
    fun b hb hg => (hG b hg).elim (fun hf => h.dj b hb hf) (fun h' => by have := h.P.lt b hb; omega), below_keeps h.B k h.z h.bG, Nat.le_trans h.z k.size⟩
end
set_option maxRecDepth 100000 in
set_option maxHeartbeats 8000000 in
theorem walk_in (A0 : Option Addr) (n0 c0 : Nat) (x0 : List Act14) (nm : ByteArray) (a : Int) (w : World) (r0 : Row Act14.cells 4 w A0 n0 x0) (h1 : n0 ≤ 60) :
    Calls Try.prog 10 #[.slice A0 n0 c0, .string nm, .int .i64 a] w fun e w' => e = .returned (.bool true) ∧ Below w.heap.size w w' := by
  go_enter Try.func10, Try.ntmps10
  go_wp2_with fail
  refine (awake_ok w).mono ?_
  rintro e wa ⟨rfl, ba⟩
  go_wp2_with fail
  refine (new_any wa).mono ?_
  rintro e wb ⟨p, F, rfl, bF, P1, kb⟩
  have kq := (Keeps.refl (fun _ => False) wb).alloc (.cells #[.slice none 0 0] 91)
  have M1 : Mem w p wb.heap.size F (RefLed.Foot wb.heap.size none) [] [] (wb.alloc (.cells #[.slice none 0 0] 91)) :=
    ⟨P1.stay kq, ⟨none, 0, ⟨Blk.new wb _ _, Has.nil _ _ _⟩, rfl, Good.nil⟩, fun b hb => Nat.le_trans ba.size (bF b hb),
      (fun b hb => by
        rcases hb with rfl | hb
        · exact Nat.le_trans ba.size kb.size
        · cases hb),
      (fun b hf hg => by
        have := P1.lt b hf
        rcases hg with rfl | hg
        · omega
        · cases hg),
      below_keeps (below_keeps ba kb ba.size (fun _ h => h.elim)) kq (Nat.le_trans ba.size kb.size) (fun _ h => h.elim), Nat.le_trans (Nat.le_trans ba.size kb.size) kq.size⟩
  clear ba kb kq P1 bF
  go_wp2_with fail
  generalize wb.alloc (.cells #[.slice none 0 0] 91) = wc at *
  generalize RefLed.Foot wb.heap.size none = G at M1
  generalize wb.heap.size = q at *
  go_loopw [9] (fun i wr => ∃ (k : Nat) (xs : List LRow) (F G : Nat → Prop), k ≤ n0 ∧ i = .int .i64 k ∧ Mem w p q F G xs xs wr ∧ Hid (xs.length ≤ k)) (fun i _ => n0 - (intOf i).toNat)
  case atStart => exact ⟨0, _, _, _, by omega, rfl, M1, Lib.hid (Nat.le_refl _)⟩
  case round =>
    clear M1
    obtain ⟨k, xs, F, G, hk, rfl, M, HX⟩ := hrel
    by_cases hlt : k < n0
    · obtain ⟨bb, off, y, rfl, hy, hbl, hcc⟩ := r0.at_ M.B hlt
      have d0 := hcc 0 _ rfl
      have d1 : wr.cell? ⟨bb, off + k * 4 + 1, none⟩ = some (.int .i64 y.t) := hcc 1 _ rfl
      have d2 : wr.cell? ⟨bb, off + k * 4 + 2, none⟩ = some (.string y.n) := hcc 2 _ rfl
      have d3 : wr.cell? ⟨bb, off + k * 4 + 3, none⟩ = some (.int .i64 y.v) := hcc 3 _ rfl
      have d0 : wr.cell? ⟨bb, off + k * 4, none⟩ = some (.int .i64 y.o) := d0
      obtain ⟨O0, T0, N0, V0, hO, hT, hN, hV⟩ := y
      dsimp only at d0 d1 d2 d3
      clear hcc hy r0
      have hk0 : (0 : Int) ≤ (k : Int) := by omega
      have hk1 : (k : Int) < (n0 : Int) := by omega
      have hxl : xs.length ≤ 99 := by have := HX.out; omega
      have hxB : w.heap.size ≤ wr.heap.size := M.z
      have Mx := M.keep ((Keeps.refl (fun _ => False) wr).alloc (.cells #[.int .i64 O0, .int .i64 T0, .string N0, .int .i64 V0] 93))
      have Xx := Blk.new wr 93 [.int .i64 O0, .int .i64 T0, .string N0, .int .i64 V0]
      have hxF : ¬ F wr.heap.size := fun h => by have := M.P.lt _ h; omega
      have hxG : ¬ G wr.heap.size := fun h => by have := M.Q.lt _ h; omega
      have x0c : (wr.alloc (.cells #[.int .i64 O0, .int .i64 T0, .string N0, .int .i64 V0] 93)).cell? ⟨wr.heap.size, 0, none⟩ = some (.int .i64 O0) := Xx.cellAt (i := 0) rfl
      have Md := Mx.keep ((Keeps.refl (fun _ => False) _).drew)
      have Xd := Xx.drew
      clear M hlt hk
      by_cases hop : O0 = 0
      · have hopb : (O0 == 0) = true := by simpa using hop
        obtain ⟨res, hres⟩ : ∃ res, add xs T0 N0 V0 true = res := ⟨_, rfl⟩
        have hlen := add_len xs T0 N0 V0 true
        rw [hres] at hlen
        obtain ⟨r, zs⟩ := res
        have HS := Lib.hid hres
        have HZ : Hid (zs.length ≤ k + 1) := Lib.hid (by have := HX.out; dsimp only at hlen; omega)
        clear hres hlen hop
        go_wp2_with fail
        clear d0 d1 d2 d3 x0c Xx Mx
        generalize wr.alloc (.cells #[.int .i64 O0, .int .i64 T0, .string N0, .int .i64 V0] 93) = wx at *
        generalize wr.heap.size = xb at *
        refine wp_region_held_drew (S := (fun W => W.cell? ⟨xb, 1, none⟩ = some (.int .i64 T0) ∧ W.cell? ⟨xb, 2, none⟩ = some (.string N0) ∧ W.cell? ⟨xb, 3, none⟩ = some (.int .i64 V0))) (by kernel_rfl) ⟨Xd.cellAt (i := 1) rfl, Xd.cellAt (i := 2) rfl, Xd.cellAt (i := 3) rfl⟩ (fun hHeld => ?_)
        refine wpAnyH_take (i := 0) (oi := ⟨some 43, _, _, _, _, _⟩) (v := ?_) rfl (by kernel_rfl) (by kernel_rfl) (by kernel_rfl) (fun _ _ _ h => h) (Or.inl ⟨by kernel_rfl, ?_⟩) (by assumption) ?_
        rotate_left
        · intro w hSw; (try dsimp only at hSw); go_simp; try with_reducible rfl
        rotate_left
        try simp only [Act.put, List.setIfInBounds_toArray, List.set_cons_zero, List.set_cons_succ]
        refine wpAnyH_take (i := 1) (oi := ⟨some 44, _, _, _, _, _⟩) (v := ?_) rfl (by kernel_rfl) (by kernel_rfl) (by kernel_rfl) (fun _ _ _ h => h) (Or.inl ⟨by kernel_rfl, ?_⟩) (by assumption) ?_
        rotate_left
        · intro w hSw; (try dsimp only at hSw); go_simp; try with_reducible rfl
        rotate_left
        try simp only [Act.put, List.setIfInBounds_toArray, List.set_cons_zero, List.set_cons_succ]
        refine wpAnyH_take (i := 2) (oi := ⟨some 45, _, _, _, _, _⟩) (v := ?_) rfl (by kernel_rfl) (by kernel_rfl) (by kernel_rfl) (fun _ _ _ h => h) (Or.inl ⟨by kernel_rfl, ?_⟩) (by assumption) ?_
        rotate_left
        · intro w hSw; (try dsimp only at hSw); go_simp; try with_reducible rfl
        rotate_left
        try simp only [Act.put, List.setIfInBounds_toArray, List.set_cons_zero, List.set_cons_succ]
        refine wpAnyH_take (i := 3) (oi := ⟨some 46, _, _, _, _, _⟩) (v := ?_) rfl (by kernel_rfl) (by kernel_rfl) (by kernel_rfl) (fun _ _ _ h => h) (Or.inl ⟨by kernel_rfl, ?_⟩) (by assumption) ?_
        rotate_left
        · intro w hSw; (try dsimp only at hSw); go_simp; try with_reducible rfl
        rotate_left
        try simp only [Act.put, List.setIfInBounds_toArray, List.set_cons_zero, List.set_cons_succ]
        refine wpAnyH_take (i := 4) (oi := ⟨some 47, _, _, _, _, _⟩) (v := ?_) rfl (by kernel_rfl) (by kernel_rfl) (by kernel_rfl) (fun _ _ _ h => h) (Or.inl ⟨by kernel_rfl, ?_⟩) (by assumption) ?_
        rotate_left
        · intro w hSw; (try dsimp only at hSw); go_simp; try with_reducible rfl
        rotate_left
        try simp only [Act.put, List.setIfInBounds_toArray, List.set_cons_zero, List.set_cons_succ]
        refine wpAnyH_take (i := 5) (oi := ⟨some 48, _, _, _, _, _⟩) (v := ?_) rfl (by kernel_rfl) (by kernel_rfl) (by kernel_rfl) (fun _ _ _ h => h) (Or.inl ⟨by kernel_rfl, ?_⟩) (by assumption) ?_
        rotate_left
        · intro w hSw; (try dsimp only at hSw); go_simp; try with_reducible rfl
        rotate_left
        try simp only [Act.put, List.setIfInBounds_toArray, List.set_cons_zero, List.set_cons_succ]
        refine wpAnyH_take (i := 6) (oi := ⟨some 49, _, _, _, _, _⟩) (v := ?_) rfl (by kernel_rfl) (by kernel_rfl) (by kernel_rfl) (fun _ _ _ h => h) (Or.inl ⟨by kernel_rfl, ?_⟩) (by assumption) ?_
        rotate_left
        · intro w hSw; (try dsimp only at hSw); go_simp; try with_reducible rfl
        rotate_left
        try simp only [Act.put, List.setIfInBounds_toArray, List.set_cons_zero, List.set_cons_succ]
        refine wpAnyH_take (i := 8) (oi := ⟨some 51, _, _, _, _, _⟩) (v := ?_) rfl (by kernel_rfl) (by kernel_rfl) (by kernel_rfl) (fun _ _ _ h => h) (Or.inl ⟨by kernel_rfl, ?_⟩) (by assumption) ?_
        rotate_left
        · intro w hSw; (try dsimp only at hSw); go_simp; try with_reducible rfl
        rotate_left
        try simp only [Act.put, List.setIfInBounds_toArray, List.set_cons_zero, List.set_cons_succ]
        refine wpAnyH_take (i := 9) (oi := ⟨some 52, _, _, _, _, _⟩) (v := ?_) rfl (by kernel_rfl) (by kernel_rfl) (by kernel_rfl) (fun _ _ _ h => h) (Or.inl ⟨by kernel_rfl, ?_⟩) (by assumption) ?_
        rotate_left
        · intro w hSw; (try dsimp only at hSw); go_simp; try with_reducible rfl
        rotate_left
        try simp only [Act.put, List.setIfInBounds_toArray, List.set_cons_zero, List.set_cons_succ]
        refine wpAnyH_take (i := 10) (oi := ⟨some 53, _, _, _, _, _⟩) (v := ?_) rfl (by kernel_rfl) (by kernel_rfl) (by kernel_rfl) (fun _ _ _ h => h) (Or.inl ⟨by kernel_rfl, ?_⟩) (by assumption) ?_
        rotate_left
        · intro w hSw; (try dsimp only at hSw); go_simp; try with_reducible rfl
        rotate_left
        try simp only [Act.put, List.setIfInBounds_toArray, List.set_cons_zero, List.set_cons_succ]
        refine wpAnyH_take (i := 11) (oi := ⟨some 54, _, _, _, _, _⟩) (v := ?_) rfl (by kernel_rfl) (by kernel_rfl) (by kernel_rfl) (fun _ _ _ h => h) (Or.inl ⟨by kernel_rfl, ?_⟩) (by assumption) ?_
        rotate_left
        · intro w hSw; (try dsimp only at hSw); go_simp; try with_reducible rfl
        rotate_left
        try simp only [Act.put, List.setIfInBounds_toArray, List.set_cons_zero, List.set_cons_succ]
        refine wpAnyH_take (i := 12) (oi := ⟨some 55, _, _, _, _, _⟩) (v := ?_) rfl (by kernel_rfl) (by kernel_rfl) (by kernel_rfl) (fun _ _ _ h => h) (Or.inl ⟨by kernel_rfl, ?_⟩) (by assumption) ?_
        rotate_left
        · intro w hSw; (try dsimp only at hSw); go_simp; try with_reducible rfl
        rotate_left
        try simp only [Act.put, List.setIfInBounds_toArray, List.set_cons_zero, List.set_cons_succ]
        refine wpAnyH_take (i := 13) (oi := ⟨some 56, _, _, _, _, _⟩) (v := ?_) rfl (by kernel_rfl) (by kernel_rfl) (by kernel_rfl) (fun _ _ _ h => h) (Or.inl ⟨by kernel_rfl, ?_⟩) (by assumption) ?_
        rotate_left
        · intro w hSw; (try dsimp only at hSw); go_simp; try with_reducible rfl
        rotate_left
        try simp only [Act.put, List.setIfInBounds_toArray, List.set_cons_zero, List.set_cons_succ]
        refine wpAnyH_take (i := 14) (oi := ⟨some 57, _, _, _, _, _⟩) (v := ?_) rfl (by kernel_rfl) (by kernel_rfl) (by kernel_rfl) (fun _ _ _ h => h) (Or.inl ⟨by kernel_rfl, ?_⟩) (by assumption) ?_
        rotate_left
        · intro w hSw; (try dsimp only at hSw); go_simp; try with_reducible rfl
        rotate_left
        try simp only [Act.put, List.setIfInBounds_toArray, List.set_cons_zero, List.set_cons_succ]
        refine wpAnyH_ready (rs := [7]) (by kernel_rfl) (by simp) ?_
        refine AllReadyH.cons (o := ⟨some 50, _, _, _, _, _⟩) rfl (fun K hK => ?_) AllReadyH.nil
        go_simp
        refine (earn_any p F xs T0 N0 V0 _ hxl Md.P hT.2 hN _ _ HS.out).mono ?_
        rintro e w5 ⟨rfl, ⟨F5, P5, f5⟩, k5⟩
        have M5 := Md.onP k5 P5 f5
        have X5 : Blk w5 xb 93 [.int .i64 O0, .int .i64 T0, .string N0, .int .i64 V0] := Xd.kept k5 hxF
        go_wp2_with fail
        refine hK.out _ _ ⟨X5.cellAt (i := 1) rfl, X5.cellAt (i := 2) rfl, X5.cellAt (i := 3) rfl⟩ (fun hHeld => ?_)
        clear hK K
        try simp only [Act.put, List.setIfInBounds_toArray, List.set_cons_zero, List.set_cons_succ]
        refine wpAnyH_ready (rs := [15]) (by kernel_rfl) (by simp) ?_
        refine AllReadyH.cons (o := ⟨some 58, _, _, _, _, _⟩) rfl (fun K hK => ?_) AllReadyH.nil
        go_simp
        refine (RefLed.write_any q G xs T0 N0 V0 true _ hxl M5.Q hT.2 hV.2 hN _ _ HS.out).mono ?_
        rintro e w6 ⟨rfl, ⟨G6, Q6, f6⟩, k6⟩
        have M6 := M5.onQ k6 Q6 f6
        have X6 : Blk w6 xb 93 [.int .i64 O0, .int .i64 T0, .string N0, .int .i64 V0] := X5.kept k6 hxG
        go_wp2_with fail
        refine hK.out _ _ ⟨X6.cellAt (i := 1) rfl, X6.cellAt (i := 2) rfl, X6.cellAt (i := 3) rfl⟩ (fun hHeld => ?_)
        clear hK K
        try simp only [Act.put, List.setIfInBounds_toArray, List.set_cons_zero, List.set_cons_succ]
        refine wpAnyH_take (i := 16) (oi := ⟨some 59, _, _, _, _, _⟩) (v := ?_) rfl (by kernel_rfl) (by kernel_rfl) (by kernel_rfl) (fun _ _ _ h => h) (Or.inl ⟨by kernel_rfl, ?_⟩) (by assumption) ?_
        rotate_left
        · intro w hSw; (try dsimp only at hSw); go_simp; try with_reducible rfl
        rotate_left
        try simp only [Act.put, List.setIfInBounds_toArray, List.set_cons_zero, List.set_cons_succ]
        refine wpAnyH_take (i := 17) (oi := ⟨some 11, _, _, _, _, _⟩) (v := ?_) rfl (by kernel_rfl) (by kernel_rfl) (by kernel_rfl) (fun _ _ _ h => h) (Or.inl ⟨by kernel_rfl, ?_⟩) (by assumption) ?_
        rotate_left
        · intro w hSw; (try dsimp only at hSw); go_simp; try with_reducible rfl
        rotate_left
        try simp only [Act.put, List.setIfInBounds_toArray, List.set_cons_zero, List.set_cons_succ]
        refine wpAnyH_done (by kernel_rfl) ?_ _
        clear P5 f5 k5 Md M5 Q6 f6 k6 Xd X5 X6
        have hzl : zs.length ≤ 100 := by have := HZ.out; omega
        go_wp2_with fail
        refine (by_any p F5 zs nm _ M6.P).mono ?_
        rintro e w7 ⟨rfl, k7⟩
        have M7 := M6.keep k7
        clear M6 k7
        go_wp2_with fail
        refine (RefLed.by_any q G6 zs nm _ hzl M7.Q).mono ?_
        rintro e w8 ⟨rfl, k8⟩
        have M8 := M7.keep k8
        clear M7 k8
        go_wp2_with fail
        refine (best_any p F5 zs _ M8.P).mono ?_
        rintro e w9 ⟨s1, m1, rfl, T1, k9⟩
        have M9 := M8.keep k9
        clear M8 k9
        go_wp2_with fail
        refine (RefLed.best_any q G6 zs _ hzl M9.Q).mono ?_
        rintro e w10 ⟨s2, m2, rfl, T2, k10⟩
        have M10 := M9.keep k10
        clear M9 k10
        obtain ⟨rfl, rfl⟩ := Top.same T1 T2
        generalize decide (0 < m1) = b1
        go_wp2_with fail
        refine (earned_any p F5 zs _ M10.P).mono ?_
        rintro e w11 ⟨rfl, rfl⟩
        go_wp2_with fail
        refine (RefLed.earned_any q G6 zs _ hzl M10.Q).mono ?_
        rintro e w11 ⟨rfl, k11⟩
        have M11 := M10.keep k11
        clear M10 k11
        go_wp2_with fail
        refine (lost_any p F5 zs _ M11.P).mono ?_
        rintro e w12 ⟨rfl, rfl⟩
        go_wp2_with fail
        refine (RefLed.lost_any q G6 zs _ hzl M11.Q).mono ?_
        rintro e w12 ⟨rfl, k12⟩
        have M12 := M11.keep k12
        clear M11 k12
        go_wp2_with fail
        refine (till_any p F5 zs a _ hzl M12.P).mono ?_
        rintro e w13 ⟨rfl, k13⟩
        have M13 := M12.keep k13
        clear M12 k13
        go_wp2_with fail
        refine (RefLed.till_any q G6 zs a _ hzl M13.Q).mono ?_
        rintro e w14 ⟨rfl, k14⟩
        have M14 := M13.keep k14
        clear M13 k14
        go_wp2_with fail
        go_roundw
        case rel => exact ⟨k + 1, zs, F5, G6, by omega, by go_num, M14, HZ⟩
        case measure => simp [intOf]; omega
      · have hopb : (O0 == 0) = false := by simpa using hop
        obtain ⟨res, hres⟩ : ∃ res, add xs T0 N0 V0 false = res := ⟨_, rfl⟩
        have hlen := add_len xs T0 N0 V0 false
        rw [hres] at hlen
        obtain ⟨r, zs⟩ := res
        have HS := Lib.hid hres
        have HZ : Hid (zs.length ≤ k + 1) := Lib.hid (by have := HX.out; dsimp only at hlen; omega)
        clear hres hlen hop
        go_wp2_with fail
        clear d0 d1 d2 d3 x0c Xx Mx
        generalize wr.alloc (.cells #[.int .i64 O0, .int .i64 T0, .string N0, .int .i64 V0] 93) = wx at *
        generalize wr.heap.size = xb at *
        refine wp_region_held_drew (S := (fun W => W.cell? ⟨xb, 1, none⟩ = some (.int .i64 T0) ∧ W.cell? ⟨xb, 2, none⟩ = some (.string N0) ∧ W.cell? ⟨xb, 3, none⟩ = some (.int .i64 V0))) (by kernel_rfl) ⟨Xd.cellAt (i := 1) rfl, Xd.cellAt (i := 2) rfl, Xd.cellAt (i := 3) rfl⟩ (fun hHeld => ?_)
        refine wpAnyH_take (i := 0) (oi := ⟨some 60, _, _, _, _, _⟩) (v := ?_) rfl (by kernel_rfl) (by kernel_rfl) (by kernel_rfl) (fun _ _ _ h => h) (Or.inl ⟨by kernel_rfl, ?_⟩) (by assumption) ?_
        rotate_left
        · intro w hSw; (try dsimp only at hSw); go_simp; try with_reducible rfl
        rotate_left
        try simp only [Act.put, List.setIfInBounds_toArray, List.set_cons_zero, List.set_cons_succ]
        refine wpAnyH_take (i := 1) (oi := ⟨some 61, _, _, _, _, _⟩) (v := ?_) rfl (by kernel_rfl) (by kernel_rfl) (by kernel_rfl) (fun _ _ _ h => h) (Or.inl ⟨by kernel_rfl, ?_⟩) (by assumption) ?_
        rotate_left
        · intro w hSw; (try dsimp only at hSw); go_simp; try with_reducible rfl
        rotate_left
        try simp only [Act.put, List.setIfInBounds_toArray, List.set_cons_zero, List.set_cons_succ]
        refine wpAnyH_take (i := 2) (oi := ⟨some 62, _, _, _, _, _⟩) (v := ?_) rfl (by kernel_rfl) (by kernel_rfl) (by kernel_rfl) (fun _ _ _ h => h) (Or.inl ⟨by kernel_rfl, ?_⟩) (by assumption) ?_
        rotate_left
        · intro w hSw; (try dsimp only at hSw); go_simp; try with_reducible rfl
        rotate_left
        try simp only [Act.put, List.setIfInBounds_toArray, List.set_cons_zero, List.set_cons_succ]
        refine wpAnyH_take (i := 3) (oi := ⟨some 63, _, _, _, _, _⟩) (v := ?_) rfl (by kernel_rfl) (by kernel_rfl) (by kernel_rfl) (fun _ _ _ h => h) (Or.inl ⟨by kernel_rfl, ?_⟩) (by assumption) ?_
        rotate_left
        · intro w hSw; (try dsimp only at hSw); go_simp; try with_reducible rfl
        rotate_left
        try simp only [Act.put, List.setIfInBounds_toArray, List.set_cons_zero, List.set_cons_succ]
        refine wpAnyH_take (i := 4) (oi := ⟨some 64, _, _, _, _, _⟩) (v := ?_) rfl (by kernel_rfl) (by kernel_rfl) (by kernel_rfl) (fun _ _ _ h => h) (Or.inl ⟨by kernel_rfl, ?_⟩) (by assumption) ?_
        rotate_left
        · intro w hSw; (try dsimp only at hSw); go_simp; try with_reducible rfl
        rotate_left
        try simp only [Act.put, List.setIfInBounds_toArray, List.set_cons_zero, List.set_cons_succ]
        refine wpAnyH_take (i := 5) (oi := ⟨some 65, _, _, _, _, _⟩) (v := ?_) rfl (by kernel_rfl) (by kernel_rfl) (by kernel_rfl) (fun _ _ _ h => h) (Or.inl ⟨by kernel_rfl, ?_⟩) (by assumption) ?_
        rotate_left
        · intro w hSw; (try dsimp only at hSw); go_simp; try with_reducible rfl
        rotate_left
        try simp only [Act.put, List.setIfInBounds_toArray, List.set_cons_zero, List.set_cons_succ]
        refine wpAnyH_take (i := 6) (oi := ⟨some 66, _, _, _, _, _⟩) (v := ?_) rfl (by kernel_rfl) (by kernel_rfl) (by kernel_rfl) (fun _ _ _ h => h) (Or.inl ⟨by kernel_rfl, ?_⟩) (by assumption) ?_
        rotate_left
        · intro w hSw; (try dsimp only at hSw); go_simp; try with_reducible rfl
        rotate_left
        try simp only [Act.put, List.setIfInBounds_toArray, List.set_cons_zero, List.set_cons_succ]
        refine wpAnyH_take (i := 8) (oi := ⟨some 68, _, _, _, _, _⟩) (v := ?_) rfl (by kernel_rfl) (by kernel_rfl) (by kernel_rfl) (fun _ _ _ h => h) (Or.inl ⟨by kernel_rfl, ?_⟩) (by assumption) ?_
        rotate_left
        · intro w hSw; (try dsimp only at hSw); go_simp; try with_reducible rfl
        rotate_left
        try simp only [Act.put, List.setIfInBounds_toArray, List.set_cons_zero, List.set_cons_succ]
        refine wpAnyH_take (i := 9) (oi := ⟨some 69, _, _, _, _, _⟩) (v := ?_) rfl (by kernel_rfl) (by kernel_rfl) (by kernel_rfl) (fun _ _ _ h => h) (Or.inl ⟨by kernel_rfl, ?_⟩) (by assumption) ?_
        rotate_left
        · intro w hSw; (try dsimp only at hSw); go_simp; try with_reducible rfl
        rotate_left
        try simp only [Act.put, List.setIfInBounds_toArray, List.set_cons_zero, List.set_cons_succ]
        refine wpAnyH_take (i := 10) (oi := ⟨some 70, _, _, _, _, _⟩) (v := ?_) rfl (by kernel_rfl) (by kernel_rfl) (by kernel_rfl) (fun _ _ _ h => h) (Or.inl ⟨by kernel_rfl, ?_⟩) (by assumption) ?_
        rotate_left
        · intro w hSw; (try dsimp only at hSw); go_simp; try with_reducible rfl
        rotate_left
        try simp only [Act.put, List.setIfInBounds_toArray, List.set_cons_zero, List.set_cons_succ]
        refine wpAnyH_take (i := 11) (oi := ⟨some 71, _, _, _, _, _⟩) (v := ?_) rfl (by kernel_rfl) (by kernel_rfl) (by kernel_rfl) (fun _ _ _ h => h) (Or.inl ⟨by kernel_rfl, ?_⟩) (by assumption) ?_
        rotate_left
        · intro w hSw; (try dsimp only at hSw); go_simp; try with_reducible rfl
        rotate_left
        try simp only [Act.put, List.setIfInBounds_toArray, List.set_cons_zero, List.set_cons_succ]
        refine wpAnyH_take (i := 12) (oi := ⟨some 72, _, _, _, _, _⟩) (v := ?_) rfl (by kernel_rfl) (by kernel_rfl) (by kernel_rfl) (fun _ _ _ h => h) (Or.inl ⟨by kernel_rfl, ?_⟩) (by assumption) ?_
        rotate_left
        · intro w hSw; (try dsimp only at hSw); go_simp; try with_reducible rfl
        rotate_left
        try simp only [Act.put, List.setIfInBounds_toArray, List.set_cons_zero, List.set_cons_succ]
        refine wpAnyH_take (i := 13) (oi := ⟨some 73, _, _, _, _, _⟩) (v := ?_) rfl (by kernel_rfl) (by kernel_rfl) (by kernel_rfl) (fun _ _ _ h => h) (Or.inl ⟨by kernel_rfl, ?_⟩) (by assumption) ?_
        rotate_left
        · intro w hSw; (try dsimp only at hSw); go_simp; try with_reducible rfl
        rotate_left
        try simp only [Act.put, List.setIfInBounds_toArray, List.set_cons_zero, List.set_cons_succ]
        refine wpAnyH_take (i := 14) (oi := ⟨some 74, _, _, _, _, _⟩) (v := ?_) rfl (by kernel_rfl) (by kernel_rfl) (by kernel_rfl) (fun _ _ _ h => h) (Or.inl ⟨by kernel_rfl, ?_⟩) (by assumption) ?_
        rotate_left
        · intro w hSw; (try dsimp only at hSw); go_simp; try with_reducible rfl
        rotate_left
        try simp only [Act.put, List.setIfInBounds_toArray, List.set_cons_zero, List.set_cons_succ]
        refine wpAnyH_ready (rs := [7]) (by kernel_rfl) (by simp) ?_
        refine AllReadyH.cons (o := ⟨some 67, _, _, _, _, _⟩) rfl (fun K hK => ?_) AllReadyH.nil
        go_simp
        refine (lose_any p F xs T0 N0 V0 _ hxl Md.P hT.2 hN _ _ HS.out).mono ?_
        rintro e w5 ⟨rfl, ⟨F5, P5, f5⟩, k5⟩
        have M5 := Md.onP k5 P5 f5
        have X5 : Blk w5 xb 93 [.int .i64 O0, .int .i64 T0, .string N0, .int .i64 V0] := Xd.kept k5 hxF
        go_wp2_with fail
        refine hK.out _ _ ⟨X5.cellAt (i := 1) rfl, X5.cellAt (i := 2) rfl, X5.cellAt (i := 3) rfl⟩ (fun hHeld => ?_)
        clear hK K
        try simp only [Act.put, List.setIfInBounds_toArray, List.set_cons_zero, List.set_cons_succ]
        refine wpAnyH_ready (rs := [15]) (by kernel_rfl) (by simp) ?_
        refine AllReadyH.cons (o := ⟨some 75, _, _, _, _, _⟩) rfl (fun K hK => ?_) AllReadyH.nil
        go_simp
        refine (RefLed.write_any q G xs T0 N0 V0 false _ hxl M5.Q hT.2 hV.2 hN _ _ HS.out).mono ?_
        rintro e w6 ⟨rfl, ⟨G6, Q6, f6⟩, k6⟩
        have M6 := M5.onQ k6 Q6 f6
        have X6 : Blk w6 xb 93 [.int .i64 O0, .int .i64 T0, .string N0, .int .i64 V0] := X5.kept k6 hxG
        go_wp2_with fail
        refine hK.out _ _ ⟨X6.cellAt (i := 1) rfl, X6.cellAt (i := 2) rfl, X6.cellAt (i := 3) rfl⟩ (fun hHeld => ?_)
        clear hK K
        try simp only [Act.put, List.setIfInBounds_toArray, List.set_cons_zero, List.set_cons_succ]
        refine wpAnyH_take (i := 16) (oi := ⟨some 76, _, _, _, _, _⟩) (v := ?_) rfl (by kernel_rfl) (by kernel_rfl) (by kernel_rfl) (fun _ _ _ h => h) (Or.inl ⟨by kernel_rfl, ?_⟩) (by assumption) ?_
        rotate_left
        · intro w hSw; (try dsimp only at hSw); go_simp; try with_reducible rfl
        rotate_left
        try simp only [Act.put, List.setIfInBounds_toArray, List.set_cons_zero, List.set_cons_succ]
        refine wpAnyH_take (i := 17) (oi := ⟨some 11, _, _, _, _, _⟩) (v := ?_) rfl (by kernel_rfl) (by kernel_rfl) (by kernel_rfl) (fun _ _ _ h => h) (Or.inl ⟨by kernel_rfl, ?_⟩) (by assumption) ?_
        rotate_left
        · intro w hSw; (try dsimp only at hSw); go_simp; try with_reducible rfl
        rotate_left
        try simp only [Act.put, List.setIfInBounds_toArray, List.set_cons_zero, List.set_cons_succ]
        refine wpAnyH_done (by kernel_rfl) ?_ _
        clear P5 f5 k5 Md M5 Q6 f6 k6 Xd X5 X6
        have hzl : zs.length ≤ 100 := by have := HZ.out; omega
        go_wp2_with fail
        refine (by_any p F5 zs nm _ M6.P).mono ?_
        rintro e w7 ⟨rfl, k7⟩
        have M7 := M6.keep k7
        clear M6 k7
        go_wp2_with fail
        refine (RefLed.by_any q G6 zs nm _ hzl M7.Q).mono ?_
        rintro e w8 ⟨rfl, k8⟩
        have M8 := M7.keep k8
        clear M7 k8
        go_wp2_with fail
        refine (best_any p F5 zs _ M8.P).mono ?_
        rintro e w9 ⟨s1, m1, rfl, T1, k9⟩
        have M9 := M8.keep k9
        clear M8 k9
        go_wp2_with fail
        refine (RefLed.best_any q G6 zs _ hzl M9.Q).mono ?_
        rintro e w10 ⟨s2, m2, rfl, T2, k10⟩
        have M10 := M9.keep k10
        clear M9 k10
        obtain ⟨rfl, rfl⟩ := Top.same T1 T2
        generalize decide (0 < m1) = b1
        go_wp2_with fail
        refine (earned_any p F5 zs _ M10.P).mono ?_
        rintro e w11 ⟨rfl, rfl⟩
        go_wp2_with fail
        refine (RefLed.earned_any q G6 zs _ hzl M10.Q).mono ?_
        rintro e w11 ⟨rfl, k11⟩
        have M11 := M10.keep k11
        clear M10 k11
        go_wp2_with fail
        refine (lost_any p F5 zs _ M11.P).mono ?_
        rintro e w12 ⟨rfl, rfl⟩
        go_wp2_with fail
        refine (RefLed.lost_any q G6 zs _ hzl M11.Q).mono ?_
        rintro e w12 ⟨rfl, k12⟩
        have M12 := M11.keep k12
        clear M11 k12
        go_wp2_with fail
        refine (till_any p F5 zs a _ hzl M12.P).mono ?_
        rintro e w13 ⟨rfl, k13⟩
        have M13 := M12.keep k13
        clear M12 k13
        go_wp2_with fail
        refine (RefLed.till_any q G6 zs a _ hzl M13.Q).mono ?_
        rintro e w14 ⟨rfl, k14⟩
        have M14 := M13.keep k14
        clear M13 k14
        go_wp2_with fail
        go_roundw
        case rel => exact ⟨k + 1, zs, F5, G6, by omega, by go_num, M14, HZ⟩
        case measure => simp [intOf]; omega
    · have hxl : xs.length ≤ 100 := by have := HX.out; omega
      have hall := fun W h => rows_any p F xs W hxl h
      obtain ⟨n, hn⟩ : ∃ n, n = xs.length := ⟨_, rfl⟩
      rw [← hn] at hall hxl
      have HN := Lib.hid hn
      have HALL := Lib.hid hall
      clear hall hn
      go_wp2_with fail
      clear hlt hk
      refine (HALL.out _ M.P).mono ?_
      rintro e w1 ⟨A1, c1, rfl, R1, _, k1⟩
      have M1 := M.keep k1
      obtain ⟨A2, c2, ha2, hG, X2⟩ := M1.Q
      have q0 := ha2.B.cellAt (i := 0) rfl
      rw [← HN.out] at q0
      clear M k1
      go_wp2_with fail
      go_loopw [21] (fun i wr => ∃ k : Nat, k ≤ n ∧ i = .int .i64 k ∧ Below w.heap.size w wr ∧ Has wr 85 3 (.slice A1 n c1) n (xs.flatMap cf) ∧ RefLed.At wr q A2 c2 xs) (fun i _ => n - (intOf i).toNat)
      case atStart => exact ⟨0, by omega, rfl, M1.B, R1, ha2⟩
      case round =>
        clear M1 R1 ha2 q0
        obtain ⟨m, hm, rfl, B, R, Q⟩ := hrel
        have q0 := Q.B.cellAt (i := 0) rfl
        rw [← HN.out] at q0
        by_cases hlt : m < n
        · obtain ⟨r, hr⟩ : ∃ r, xs[m]? = some r := ⟨_, List.getElem?_eq_getElem (by rw [← HN.out]; exact hlt)⟩
          obtain ⟨g, off, hA1, hc⟩ := R.at_ (by omega)
          obtain ⟨g2, off2, hA2, e0, e1, e2⟩ := Q.cell hr
          subst hA1 hA2
          have d0 : wr.cell? ⟨g, off + m * 3, none⟩ = some (.int .i64 r.t) := hc _ _ (flat_at cf_len hr (j := 0) rfl)
          have d1 : wr.cell? ⟨g, off + m * 3 + 1, none⟩ = some (.string r.n) := hc _ _ (flat_at cf_len hr (j := 1) rfl)
          have d2 : wr.cell? ⟨g, off + m * 3 + 2, none⟩ = some (.int .i64 r.v) := hc _ _ (flat_at cf_len hr (j := 2) rfl)
          have hj0 : (0 : Int) ≤ (m : Int) := by omega
          have hj1 : (m : Int) < (n : Int) := by omega
          clear hc hr
          go_wp2_with fail
          go_quiet (fail)
          go_wp2_with fail
          go_roundw
          case rel => exact ⟨m + 1, by omega, by go_num, below_keeps B ((Keeps.refl (fun _ => False) wr).drewN _) B.size (fun _ h => h.elim), R.kept ((Keeps.refl (fun _ => False) wr).drewN _) (fun _ _ _ _ h => h), Q.stay ((Keeps.refl (fun _ => False) wr).drewN _)⟩
          case measure => simp [intOf]; omega
        · go_wp2_with fail
          go_ret
          exact ⟨rfl, B⟩
set_option maxRecDepth 100000 in
set_option maxHeartbeats 1000000 in
theorem walk_out (A0 : Option Addr) (n0 c0 : Nat) (nm : ByteArray) (a : Int) (w : World) (hm : n0 ≤ 9223372036854775807) (h : ¬ n0 ≤ 60) :
    Calls Try.prog 10 #[.slice A0 n0 c0, .string nm, .int .i64 a] w fun e w' => e = .returned (.bool true) ∧ Below w.heap.size w w' := by
  go_enter Try.func10, Try.ntmps10
  go_wp2_with fail
  refine (awake_ok w).mono ?_
  rintro e wa ⟨rfl, ba⟩
  go_wp2_with fail
  go_ret
  exact ⟨rfl, ba⟩
theorem walk (A0 : Option Addr) (n0 c0 : Nat) (x0 : List Act14) (nm : ByteArray) (a : Int) (w : World) (r0 : Row Act14.cells 4 w A0 n0 x0) (wn : nm.size ≤ maxLen) (wa : (Lit.int .i64 a).wf = true) :
    Calls Try.prog 10 #[.slice A0 n0 c0, .string nm, .int .i64 a] w fun e w' => e = .returned (.bool true) ∧ Below w.heap.size w w' := by
  by_cases h : n0 ≤ 60
  · exact walk_in A0 n0 c0 x0 nm a w r0 h
  · have m1 := r0.2.1
    unfold maxLen at m1
    exact walk_out A0 n0 c0 nm a w m1 h
theorem own : ownKnob Try.prog.godebug = none := by kernel_rfl
theorem laidOut : laidOutB Try.prog = true := by kernel_rfl
set_option maxRecDepth 100000 in
theorem lifted (os : Os) (started : os.Started) (H : Type) (enc : TypeId × Value → H) :
    ReturnsInHanded {} Try.checked os 10 .any (Rows.ledgerPlaysSpec.pre6 enc Try.prog Try.f10 Rows.ledgerPlaysRow.domain false) (Rows.ledgerPlaysSpec.post enc Try.prog Try.f10 false true false false) := by
  refine returnsInHanded_of_change (C := Try.checked) own started (by kernel_rfl) Try.func10
    (ChangeSpec.witness6 (enc := enc) (C := Try.checked) false ⟨#[], #[.slice none 0 0, .string ⟨#[]⟩, .int .i64 0], []⟩ 8 (by kernel_rfl) (by kernel_rfl) (by kernel_rfl) (by kernel_rfl)) ?_
  intro W base args ds gs before hval0 hW hcnd _
  have hval : ∀ (j : Nat) t v, Try.f10.params[j]? = some t → args[j]? = some v → Value.okWide Try.prog W .any base t v := hval0
  have hW' := hW
  obtain ⟨p, q, hA0, hV, rfl, hfz, hnd⟩ := hW
  have hA : DataW.TrodAll enc Try.prog W 0 (fun _ => true) true Try.f10.params.toList args.toList ds p := hA0
  rw [Try.params10] at hA hval
  obtain ⟨v0, vs0, d0, ds0, p0, q0, hargs, rfl, rfl, h0, r0⟩ := trodAll_cons hA
  obtain ⟨v1, vs1, d1, ds1, p1, q1, rfl, rfl, rfl, h1, r1⟩ := trodAll_cons r0
  obtain ⟨v2, vs2, d2, ds2, p2, q2, rfl, rfl, rfl, h2, r2⟩ := trodAll_cons r1
  obtain ⟨rfl, rfl, rfl⟩ := trodAll_nil r2
  obtain rfl : args = #[v0, v1, v2] := by cases args; simp_all
  obtain ⟨rfl, rfl⟩ := trodVars_none hV
  obtain ⟨A0, n0, c0, rfl⟩ := okWide_slice Try.underlying87 (hval 0 87 v0 rfl rfl)
  have k0 := h0
  have lt0 : ∀ x ∈ p0, x.block < W.heap.size := by obtain ⟨m, hm⟩ := k0; exact DataW.trod_lt m _ _ _ hm
  obtain ⟨x0, w0⟩ : ∃ xs, Row Act14.cells 4 W A0 n0 xs := by
    obtain ⟨fuel, hf⟩ := h0
    exact open_row _ 4 (by omega) Try.underlying87 (by kernel_rfl) el_act14 (by simpa [Value.cells] using hf)
  obtain ⟨a1, rfl, rfl, rfl, w1⟩ := Go.ChangeMaps.open_string Try.underlying9 (hval 1 9 v1 rfl rfl) h1
  obtain ⟨a2, rfl, rfl, rfl, w2⟩ := open_int Try.underlying3 (hval 2 3 v2 rfl rfl) h2
  clear hA0 hval0
  refine (walk A0 n0 c0 x0 a1 a2 W w0 w1 w2).mono fun e W' ⟨he, bel⟩ => ?_
  subst he
  exact ⟨_, rfl, _, _, _, [], _, [], hW', trodAll_mk1 (shut_bool Try.underlying4 _), (trodAll_cons_mk (Below.trod laidOut (by kernel_rfl) (of_decide_eq_true (by kernel_rfl)) k0 bel lt0) (trodAll_cons_mk (Go.ChangeMaps.shut_string Try.underlying9 w1) (trodAll_cons_mk (shut_int Try.underlying3 w2) trodAll_mk0))), rfl, bel.frame _, fun h => by cases h⟩
theorem over : Rows.ledgerPlaysRow.holds Try.pinned (OpenSpec.ofChange Rows.ledgerPlaysSpec) :=
  OpenClaim.holds_of_wide 10 Try.f10 rfl rfl rfl rfl rfl rfl rfl ⟨rfl, rfl, rfl, rfl, rfl⟩ rfl rfl rfl rfl rfl (by kernel_rfl) Try.func10 (by kernel_rfl)
    (of_decide_eq_true (by kernel_rfl)) (by unfold Func.isWrapper; first | (rw [if_pos (by decide +kernel)]; kernel_rfl) | (rw [if_neg (by decide +kernel)]; exact ⟨rfl, rfl⟩))
    (fun os started H enc _ => lifted os started H enc)
/-- The statement. -/
theorem proved : Rows.LedgerPlaysSaid := over
#print axioms proved
end LedgerPlays
end Go.Proofs.Ytpfhogbkbodfjab
