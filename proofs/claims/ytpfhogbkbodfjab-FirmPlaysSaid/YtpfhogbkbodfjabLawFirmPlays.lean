/- The law FirmPlays returns true at every input and leaves its arguments alone. Conditions: none. -/
import Derived.Test.YtpfhogbkbodfjabAwake16
import Derived.Test.YtpfhogbkbodfjabRefMon3
import Derived.Deep.RegionHeld3
namespace Go.Proofs.Ytpfhogbkbodfjab
open Go.RowKit Go.ChangeShapes Go.WideShapes Go.ChangeAt Go.Deep
set_option linter.unusedVariables false
set_option linter.unusedSimpArgs false
namespace FirmPlays
open Mon Win
/-- The program's Monitor and the reference's. -/
structure Mem2 (w : World) (p q : Nat) (F G : Nat → Prop) (m k : Nat) (xs ys : List Bool) (wr : World) : Prop where
  P : Mon.Is wr p F m k xs (brk m k xs)
  Q : RefMon.Is wr q G m k ys
  bF : ∀ b, F b → w.heap.size ≤ b
  bG : ∀ b, G b → w.heap.size ≤ b
  dj : ∀ b, F b → ¬ G b
  B : Below w.heap.size w wr
section
variable {w : World} {p q m k : Nat} {F G : Nat → Prop} {xs ys : List Bool} {w1 w2 : World}
theorem Mem2.keep (h : Mem2 w p q F G m k xs ys w1) (kp : Keeps (fun _ => False) w1 w2) : Mem2 w p q F G m k xs ys w2 :=
  ⟨h.P.stay kp, h.Q.stay kp, h.bF, h.bG, h.dj, below_keeps h.B kp h.B.size (fun _ h => h.elim)⟩
theorem Mem2.onP (h : Mem2 w p q F G m k xs ys w1) {F' : Nat → Prop} {xs' : List Bool} (kp : Keeps F w1 w2) (hI : Mon.Is w2 p F' m k xs' (brk m k xs')) (hF : ∀ b, F' b → F b ∨ w1.heap.size ≤ b) : Mem2 w p q F' G m k xs' ys w2 :=
  ⟨hI, h.Q.kept kp (fun b hb hf => h.dj b hf hb), fun b hb => (hF b hb).elim (h.bF b) (fun h' => Nat.le_trans h.B.size h'), h.bG,
    fun b hb hg => (hF b hb).elim (fun hf => h.dj b hf hg) (fun h' => by have := h.Q.lt b hg; omega), below_keeps h.B kp h.B.size h.bF⟩
theorem Mem2.onQ (h : Mem2 w p q F G m k xs ys w1) {G' : Nat → Prop} {ys' : List Bool} (kp : Keeps G w1 w2) (hI : RefMon.Is w2 q G' m k ys') (hG : ∀ b, G' b → G b ∨ w1.heap.size ≤ b) : Mem2 w p q F G' m k xs ys' w2 :=
  ⟨h.P.kept kp (fun b hb hf => h.dj b hb hf), hI, h.bF, fun b hb => (hG b hb).elim (h.bG b) (fun h' => Nat.le_trans h.B.size h'),
    fun b hb hg => (hG b hg).elim (fun hf => h.dj b hb hf) (fun h' => by have := h.P.lt b hb; omega), below_keeps h.B kp h.B.size h.bG⟩
end
/-- What holds at each round's start. -/
def Inv (w : World) (p q m k n1 : Nat) (x1 : List Bool) (i : Value) (wr : World) : Prop :=
  ∃ (j : Nat) (F G : Nat → Prop), j ≤ n1 ∧ i = .int .i64 (j : Int) ∧ Mem2 w p q F G m k (x1.take j) (x1.take j) wr
set_option maxRecDepth 100000 in
set_option maxHeartbeats 8000000 in
theorem walk_in (m k : Nat) (A1 : Option Addr) (n1 c1 : Nat) (x1 : List Bool) (n : Int) (w : World) (r1 : Row (fun x : Bool => [Value.bool x]) 1 w A1 n1 x1) (h1 : 1 ≤ k) (h2 : k ≤ 64) (hm : m ≤ k) (hn : n1 ≤ 100) :
    Calls Try.prog 14 #[.int .i64 (m : Int), .int .i64 (k : Int), .slice A1 n1 c1, .int .i64 n] w fun e w' => e = .returned (.bool true) ∧ Below w.heap.size w w' := by
  have g1 : (1 : Int) ≤ (k : Int) := by omega
  have g2 : (k : Int) ≤ 64 := by omega
  have g3 : (m : Int) ≤ (k : Int) := by omega
  have g4 : (0 : Int) ≤ (m : Int) := by omega
  have g5 : (n1 : Int) ≤ 100 := by omega
  have i1 : decide ((k : Int) < 1) = false := by simp; omega
  have i2 : decide ((64 : Int) < (k : Int)) = false := by simp; omega
  have i3 : decide ((m : Int) < 0) = false := by simp
  have i4 : decide ((k : Int) < (m : Int)) = false := by simp; omega
  have i5 : decide (k < m) = false := by simp; omega
  have i6 : decide ((100 : Int) < (n1 : Int)) = false := by simp; omega
  have HXL := Lib.hid r1.1
  go_enter Try.func14, Try.ntmps14
  go_wp2_with fail
  refine (awake_ok w).mono ?_
  rintro e wa ⟨rfl, ba⟩
  go_wp2_with fail
  refine (new_is m k wa h1 h2 hm).mono ?_
  rintro e wb ⟨p, F, rfl, P1, pF, kb⟩
  have kq := (Keeps.refl (fun _ => False) wb).alloc (.cells #[.int .i64 (m : Int), .int .i64 (k : Int), .slice none 0 0] 110)
  have bb1 := below_keeps ba kb ba.size (fun _ h => h.elim)
  have M0 : Mem2 w p wb.heap.size F (RefMon.Foot wb.heap.size none) m k [] [] (wb.alloc (.cells #[.int .i64 (m : Int), .int .i64 (k : Int), .slice none 0 0] 110)) :=
    ⟨P1.stay kq, RefMon.is_new wb m k, fun b hb => Nat.le_trans ba.size (pF b hb),
      (fun b hb => by
        rcases hb with rfl | hb
        · exact bb1.size
        · cases hb),
      (fun b hf hg => by
        have := P1.lt b hf
        rcases hg with rfl | hg
        · omega
        · cases hg),
      below_keeps bb1 kq bb1.size (fun _ h => h.elim)⟩
  clear ba kb kq bb1 P1 pF
  go_wp2_with fail
  generalize wb.alloc (.cells #[.int .i64 (m : Int), .int .i64 (k : Int), .slice none 0 0] 110) = wc at *
  generalize RefMon.Foot wb.heap.size none = G at M0
  generalize wb.heap.size = q at *
  go_loopw [12] (fun i wr => Inv w p q m k n1 x1 i wr) (fun i _ => n1 - (intOf i).toNat)
  case atStart => exact ⟨0, F, G, Nat.zero_le _, rfl, M0⟩
  case round =>
    clear M0
    obtain ⟨j, F, G, hj, rfl, M⟩ := hrel
    by_cases hlt : j < n1
    · obtain ⟨bb, off, y, rfl, hy, hbl0, hc⟩ := r1.at1 M.B hlt
      have HTK : Hid (x1.take j ++ [y] = x1.take (j + 1)) := Lib.hid (take_next hy).symm
      have hxn : (x1.take j).length = j := by rw [List.length_take]; have := HXL.out; omega
      have hxn1 : (x1.take (j + 1)).length = j + 1 := by rw [List.length_take]; have := HXL.out; omega
      have hbl := brk_len m k (x1.take j)
      have hA := fun W (h : Mon.Is W p F m k (x1.take j) (brk m k (x1.take j))) => add_is y h h1 h2 hm (by omega) (by omega)
      rw [← brk_snoc m k (x1.take j) y, HTK.out] at hA
      have hQ := fun W (h : RefMon.Is W q G m k (x1.take j)) => RefMon.add_is y h h1 h2 (by omega)
      rw [HTK.out] at hQ
      obtain ⟨xs, hxs⟩ : ∃ xs, x1.take (j + 1) = xs := ⟨_, rfl⟩
      rw [hxs] at hA hQ hxn1
      obtain ⟨b, hb⟩ : ∃ b, bad m k xs = b := ⟨_, rfl⟩
      rw [hb] at hA hQ
      have hY1 := fun W F (h : Mon.Is W p F m k xs (brk m k xs)) => may_any p F m k xs (brk m k xs) n W h h1 h2 hm (by omega)
      have hY2 := fun W G (h : RefMon.Is W q G m k xs) => RefMon.may_is n h h1 h2 (by omega)
      obtain ⟨b2, hb2⟩ : ∃ b, may m k xs (min n.toNat 100) = b := ⟨_, rfl⟩
      rw [hb2] at hY1 hY2
      have HA := Lib.hid hA
      have HQ := Lib.hid hQ
      have HY1 := Lib.hid hY1
      have HY2 := Lib.hid hY2
      have HXS := Lib.hid hxs
      have HXN := Lib.hid hxn1
      have hj0 : (0 : Int) ≤ (j : Int) := by omega
      have hj1 : (j : Int) < (n1 : Int) := by omega
      have Md := M.keep ((Keeps.refl (fun _ => False) wr).drew)
      have hcd : wr.drew.cell? ⟨bb, off + j, none⟩ = some (.bool y) := hc
      clear hA hQ hY1 hY2 hb hb2 hxs hxn hxn1 hbl hy M
      go_wp2_with fail
      clear hc
      refine wp_region_held_drew (S := (fun W => W.cell? ⟨bb, off + j, none⟩ = some (.bool y))) (by kernel_rfl) hcd (fun hHeld => ?_)
      refine wpAnyH_take (i := 0) (oi := ⟨some 73, _, _, _, _, _⟩) (v := ?_) rfl (by kernel_rfl) (by kernel_rfl) (by kernel_rfl) (fun _ _ _ h => h) (Or.inl ⟨by kernel_rfl, ?_⟩) (by assumption) ?_
      rotate_left
      · intro w hSw; (try dsimp only at hSw); go_simp; try with_reducible rfl
      rotate_left
      try simp only [Act.put, List.setIfInBounds_toArray, List.set_cons_zero, List.set_cons_succ]
      refine wpAnyH_take (i := 1) (oi := ⟨some 74, _, _, _, _, _⟩) (v := ?_) rfl (by kernel_rfl) (by kernel_rfl) (by kernel_rfl) (fun _ _ _ h => h) (Or.inl ⟨by kernel_rfl, ?_⟩) (by assumption) ?_
      rotate_left
      · intro w hSw; (try dsimp only at hSw); go_simp; try with_reducible rfl
      rotate_left
      try simp only [Act.put, List.setIfInBounds_toArray, List.set_cons_zero, List.set_cons_succ]
      refine wpAnyH_take (i := 2) (oi := ⟨some 75, _, _, _, _, _⟩) (v := ?_) rfl (by kernel_rfl) (by kernel_rfl) (by kernel_rfl) (fun _ _ _ h => h) (Or.inl ⟨by kernel_rfl, ?_⟩) (by assumption) ?_
      rotate_left
      · intro w hSw; (try dsimp only at hSw); go_simp; try with_reducible rfl
      rotate_left
      try simp only [Act.put, List.setIfInBounds_toArray, List.set_cons_zero, List.set_cons_succ]
      refine wpAnyH_take (i := 3) (oi := ⟨some 76, _, _, _, _, _⟩) (v := ?_) rfl (by kernel_rfl) (by kernel_rfl) (by kernel_rfl) (fun _ _ _ h => h) (Or.inl ⟨by kernel_rfl, ?_⟩) (by assumption) ?_
      rotate_left
      · intro w hSw; (try dsimp only at hSw); go_simp; try with_reducible rfl
      rotate_left
      try simp only [Act.put, List.setIfInBounds_toArray, List.set_cons_zero, List.set_cons_succ]
      refine wpAnyH_take (i := 4) (oi := ⟨some 77, _, _, _, _, _⟩) (v := ?_) rfl (by kernel_rfl) (by kernel_rfl) (by kernel_rfl) (fun _ _ _ h => h) (Or.inl ⟨by kernel_rfl, ?_⟩) (by assumption) ?_
      rotate_left
      · intro w hSw; (try dsimp only at hSw); go_simp; try with_reducible rfl
      rotate_left
      try simp only [Act.put, List.setIfInBounds_toArray, List.set_cons_zero, List.set_cons_succ]
      refine wpAnyH_take (i := 6) (oi := ⟨some 79, _, _, _, _, _⟩) (v := ?_) rfl (by kernel_rfl) (by kernel_rfl) (by kernel_rfl) (fun _ _ _ h => h) (Or.inl ⟨by kernel_rfl, ?_⟩) (by assumption) ?_
      rotate_left
      · intro w hSw; (try dsimp only at hSw); go_simp; try with_reducible rfl
      rotate_left
      try simp only [Act.put, List.setIfInBounds_toArray, List.set_cons_zero, List.set_cons_succ]
      refine wpAnyH_take (i := 7) (oi := ⟨some 80, _, _, _, _, _⟩) (v := ?_) rfl (by kernel_rfl) (by kernel_rfl) (by kernel_rfl) (fun _ _ _ h => h) (Or.inl ⟨by kernel_rfl, ?_⟩) (by assumption) ?_
      rotate_left
      · intro w hSw; (try dsimp only at hSw); go_simp; try with_reducible rfl
      rotate_left
      try simp only [Act.put, List.setIfInBounds_toArray, List.set_cons_zero, List.set_cons_succ]
      refine wpAnyH_take (i := 8) (oi := ⟨some 81, _, _, _, _, _⟩) (v := ?_) rfl (by kernel_rfl) (by kernel_rfl) (by kernel_rfl) (fun _ _ _ h => h) (Or.inl ⟨by kernel_rfl, ?_⟩) (by assumption) ?_
      rotate_left
      · intro w hSw; (try dsimp only at hSw); go_simp; try with_reducible rfl
      rotate_left
      try simp only [Act.put, List.setIfInBounds_toArray, List.set_cons_zero, List.set_cons_succ]
      refine wpAnyH_take (i := 9) (oi := ⟨some 82, _, _, _, _, _⟩) (v := ?_) rfl (by kernel_rfl) (by kernel_rfl) (by kernel_rfl) (fun _ _ _ h => h) (Or.inl ⟨by kernel_rfl, ?_⟩) (by assumption) ?_
      rotate_left
      · intro w hSw; (try dsimp only at hSw); go_simp; try with_reducible rfl
      rotate_left
      try simp only [Act.put, List.setIfInBounds_toArray, List.set_cons_zero, List.set_cons_succ]
      refine wpAnyH_take (i := 10) (oi := ⟨some 83, _, _, _, _, _⟩) (v := ?_) rfl (by kernel_rfl) (by kernel_rfl) (by kernel_rfl) (fun _ _ _ h => h) (Or.inl ⟨by kernel_rfl, ?_⟩) (by assumption) ?_
      rotate_left
      · intro w hSw; (try dsimp only at hSw); go_simp; try with_reducible rfl
      rotate_left
      try simp only [Act.put, List.setIfInBounds_toArray, List.set_cons_zero, List.set_cons_succ]
      refine wpAnyH_ready (rs := [5]) (by kernel_rfl) (by simp) ?_
      refine AllReadyH.cons (o := ⟨some 78, _, _, _, _, _⟩) rfl (fun K hK => ?_) AllReadyH.nil
      go_simp
      refine (HA.out _ Md.P).mono ?_
      rintro e w5 ⟨rfl, ⟨F5, P5, f5⟩, k5⟩
      have M5 := Md.onP k5 P5 f5
      have e5 : w5.cell? ⟨bb, off + j, none⟩ = some (.bool y) := by
        rw [World.cell?_of_block (a := ⟨bb, off + j, none⟩) (k5.block bb (by have := Md.B.size; omega) (fun h => by have := Md.bF _ h; omega))]; exact hcd
      go_wp2_with fail
      refine hK.out _ _ e5 (fun hHeld => ?_)
      clear hK K
      try simp only [Act.put, List.setIfInBounds_toArray, List.set_cons_zero, List.set_cons_succ]
      refine wpAnyH_ready (rs := [11]) (by kernel_rfl) (by simp) ?_
      refine AllReadyH.cons (o := ⟨some 84, _, _, _, _, _⟩) rfl (fun K hK => ?_) AllReadyH.nil
      go_simp
      refine (HQ.out _ M5.Q).mono ?_
      rintro e w6 ⟨rfl, ⟨G6, Q6, f6⟩, k6⟩
      have M6 := M5.onQ k6 Q6 f6
      have e6 : w6.cell? ⟨bb, off + j, none⟩ = some (.bool y) := by
        rw [World.cell?_of_block (a := ⟨bb, off + j, none⟩) (k6.block bb (by have := M5.B.size; omega) (fun h => by have := M5.bG _ h; omega))]; exact e5
      go_wp2_with fail
      refine hK.out _ _ e6 (fun hHeld => ?_)
      clear hK K
      try simp only [Act.put, List.setIfInBounds_toArray, List.set_cons_zero, List.set_cons_succ]
      refine wpAnyH_take (i := 12) (oi := ⟨some 85, _, _, _, _, _⟩) (v := ?_) rfl (by kernel_rfl) (by kernel_rfl) (by kernel_rfl) (fun _ _ _ h => h) (Or.inl ⟨by kernel_rfl, ?_⟩) (by assumption) ?_
      rotate_left
      · intro w hSw; (try dsimp only at hSw); go_simp; try with_reducible rfl
      rotate_left
      try simp only [Act.put, List.setIfInBounds_toArray, List.set_cons_zero, List.set_cons_succ]
      refine wpAnyH_done (by kernel_rfl) ?_ _
      clear P5 f5 k5 Md M5 Q6 f6 k6 e5 e6 HA HQ hcd
      by_cases hk : j + 1 < k
      · have HW1 := Lib.hid (fun W F (h : Mon.Is W p F m k xs (brk m k xs)) => worst_no h (by rw [HXN.out]; exact hk) h2)
        have HW2 := Lib.hid (fun W G (h : RefMon.Is W q G m k xs) => RefMon.worst_no h (by rw [HXN.out]; exact hk) h2)
        clear hk
        go_wp2_with fail
        refine (HW1.out _ _ M6.P).mono ?_
        rintro e w7 ⟨rfl, D7⟩
        have M7 := M6.keep (D7.keeps _)
        clear M6 D7
        go_wp2_with fail
        refine (HW2.out _ _ M7.Q).mono ?_
        rintro e w8 ⟨rfl, D8⟩
        have M8 := M7.keep (D8.keeps _)
        clear M7 D8
        go_wp2_with fail
        refine (HY1.out _ _ M8.P).mono ?_
        rintro e w9 ⟨rfl, k9⟩
        have M9 := M8.keep k9
        clear M8 k9
        go_wp2_with fail
        refine (HY2.out _ _ M9.Q).mono ?_
        rintro e w10 ⟨rfl, k10⟩
        have M10 := M9.keep k10
        clear M9 k10
        go_wp2_with fail
        go_roundw
        case rel => first | exact ⟨j + 1, F5, G6, by omega, by go_num, by rw [HXS.out]; exact M10⟩ | ((repeat apply Exists.intro); exact ⟨⟨j + 1, F5, G6, by omega, by go_num, by rw [HXS.out]; exact M10⟩, rfl⟩)
        case measure => simp [intOf]; omega
      · have hW1 := fun W F (h : Mon.Is W p F m k xs (brk m k xs)) => worst_yes h (by rw [HXN.out]; omega) (by rw [HXN.out]; omega)
        have hW2 := fun W G (h : RefMon.Is W q G m k xs) => RefMon.worst_yes h h1 (by rw [HXN.out]; omega) (by rw [HXN.out]; omega)
        generalize wst k xs = wo at hW1 hW2
        have HW1 := Lib.hid hW1
        have HW2 := Lib.hid hW2
        clear hk hW1 hW2
        go_wp2_with fail
        refine (HW1.out _ _ M6.P).mono ?_
        rintro e w7 ⟨rfl, D7⟩
        have M7 := M6.keep (D7.keeps _)
        clear M6 D7
        go_wp2_with fail
        refine (HW2.out _ _ M7.Q).mono ?_
        rintro e w8 ⟨rfl, D8⟩
        have M8 := M7.keep (D8.keeps _)
        clear M7 D8
        go_wp2_with fail
        refine (HY1.out _ _ M8.P).mono ?_
        rintro e w9 ⟨rfl, k9⟩
        have M9 := M8.keep k9
        clear M8 k9
        go_wp2_with fail
        refine (HY2.out _ _ M9.Q).mono ?_
        rintro e w10 ⟨rfl, k10⟩
        have M10 := M9.keep k10
        clear M9 k10
        go_wp2_with fail
        go_roundw
        case rel => first | exact ⟨j + 1, F5, G6, by omega, by go_num, by rw [HXS.out]; exact M10⟩ | ((repeat apply Exists.intro); exact ⟨⟨j + 1, F5, G6, by omega, by go_num, by rw [HXS.out]; exact M10⟩, rfl⟩)
        case measure => simp [intOf]; omega
    · obtain rfl : j = n1 := by omega
      have hfull : x1.take j = x1 := List.take_of_length_le (by have := HXL.out; omega)
      rw [hfull] at M
      clear hfull r1
      have hbl := brk_len m k x1
      rw [HXL.out] at hbl
      have hB1 := fun W (h : Mon.Is W p F m k x1 (brk m k x1)) => broken_is h (by omega)
      have hB2 := fun W (h : RefMon.Is W q G m k x1) => RefMon.broken_is h h1 h2 (by rw [HXL.out]; omega)
      obtain ⟨bs, hbs⟩ : ∃ bs, brk m k x1 = bs := ⟨_, rfl⟩
      obtain ⟨nb, hnb⟩ : ∃ nb, bs.length = nb := ⟨_, rfl⟩
      have P := M.P
      rw [hbs] at hB1 hB2 hbl P
      rw [hnb] at hB1 hB2 hbl
      have HB1 := Lib.hid hB1
      have HB2 := Lib.hid hB2
      clear hB1 hB2 hbs hnb
      go_wp2_with fail
      refine (HB1.out _ P).mono ?_
      rintro e w5 ⟨A5, c5, rfl, R5, k5⟩
      have M5 := M.keep k5
      clear M P k5
      go_wp2_with fail
      refine (HB2.out _ M5.Q).mono ?_
      rintro e w6 ⟨A6, c6, rfl, R6, k6⟩
      have M6 := M5.keep k6
      have R56 := R5.kept k6 (fun _ _ _ _ h => h)
      clear M5 k6 R5
      go_wp2_with fail
      refine (ints_eq _ _ nb _ _ bs R56 R6 (by omega)).mono ?_
      rintro e w7 ⟨rfl, D7⟩
      have M7 := M6.keep (D7.keeps _)
      go_wp2_with fail
      go_ret
      exact ⟨rfl, M7.B⟩
set_option maxRecDepth 100000 in
set_option maxHeartbeats 1000000 in
theorem walk_no (m k n : Int) (A1 : Option Addr) (n1 c1 : Nat) (w : World) (h : ¬ (1 ≤ k ∧ k ≤ 64 ∧ 0 ≤ m ∧ m ≤ k)) :
    Calls Try.prog 14 #[.int .i64 m, .int .i64 k, .slice A1 n1 c1, .int .i64 n] w fun e w' => e = .returned (.bool true) ∧ Below w.heap.size w w' := by
  have HN := Lib.hid (fun W => new_no m k W h)
  go_enter Try.func14, Try.ntmps14
  go_wp2_with fail
  refine (awake_ok w).mono ?_
  rintro e wa ⟨rfl, ba⟩
  go_wp2_with fail
  refine (HN.out wa).mono ?_
  rintro e wb ⟨rfl, kb⟩
  have bb := below_keeps ba kb ba.size (fun _ h => h.elim)
  clear ba kb
  by_cases a1 : k < 1
  · clear h
    go_wp2_with fail
    go_ret
    exact ⟨rfl, bb⟩
  · by_cases a2 : 64 < k
    · clear h
      go_wp2_with fail
      go_ret
      exact ⟨rfl, bb⟩
    · by_cases a3 : m < 0
      · clear h
        go_wp2_with fail
        go_ret
        exact ⟨rfl, bb⟩
      · have a4 : k < m := by omega
        clear h
        go_wp2_with fail
        go_ret
        exact ⟨rfl, bb⟩
set_option maxRecDepth 100000 in
set_option maxHeartbeats 1000000 in
theorem walk_out (m k : Nat) (n : Int) (A1 : Option Addr) (n1 c1 : Nat) (w : World) (hm1 : n1 ≤ 9223372036854775807) (h1 : 1 ≤ k) (h2 : k ≤ 64) (hm : m ≤ k) (h3 : 100 < n1) :
    Calls Try.prog 14 #[.int .i64 (m : Int), .int .i64 (k : Int), .slice A1 n1 c1, .int .i64 n] w fun e w' => e = .returned (.bool true) ∧ Below w.heap.size w w' := by
  have g1 : (1 : Int) ≤ (k : Int) := by omega
  have g2 : (k : Int) ≤ 64 := by omega
  have g3 : (m : Int) ≤ (k : Int) := by omega
  have g4 : (0 : Int) ≤ (m : Int) := by omega
  have g5 : (100 : Int) < (n1 : Int) := by omega
  go_enter Try.func14, Try.ntmps14
  go_wp2_with fail
  refine (awake_ok w).mono ?_
  rintro e wa ⟨rfl, ba⟩
  go_wp2_with fail
  refine (new_m m k w wa ba h1 h2 hm).mono ?_
  rintro e wb ⟨p, F, rfl, M1, _, _⟩
  have B := M1.B
  clear M1 ba
  go_wp2_with fail
  all_goals (go_ret; exact ⟨rfl, B⟩)
theorem walk (m k : Int) (A1 : Option Addr) (n1 c1 : Nat) (x1 : List Bool) (n : Int) (w : World) (w0 : (Lit.int .i64 m).wf = true) (w1 : (Lit.int .i64 k).wf = true) (r1 : Row (fun x : Bool => [Value.bool x]) 1 w A1 n1 x1) (w3 : (Lit.int .i64 n).wf = true) :
    Calls Try.prog 14 #[.int .i64 m, .int .i64 k, .slice A1 n1 c1, .int .i64 n] w fun e w' => e = .returned (.bool true) ∧ Below w.heap.size w w' := by
  by_cases h : 1 ≤ k ∧ k ≤ 64 ∧ 0 ≤ m ∧ m ≤ k
  · obtain ⟨K, rfl⟩ := Int.eq_ofNat_of_zero_le (show 0 ≤ k by omega)
    obtain ⟨M, rfl⟩ := Int.eq_ofNat_of_zero_le h.2.2.1
    by_cases h3 : n1 ≤ 100
    · exact walk_in M K A1 n1 c1 x1 n w r1 (by omega) (by omega) (by omega) h3
    · have m1 := r1.2.1
      unfold maxLen at m1
      exact walk_out M K n A1 n1 c1 w m1 (by omega) (by omega) (by omega) (by omega)
  · exact walk_no m k n A1 n1 c1 w h
theorem own : ownKnob Try.prog.godebug = none := by kernel_rfl
theorem laidOut : laidOutB Try.prog = true := by kernel_rfl
set_option maxRecDepth 100000 in
theorem lifted (os : Os) (started : os.Started) (H : Type) (enc : TypeId × Value → H) :
    ReturnsInHanded {} Try.checked os 14 .any (Rows.firmPlaysSpec.pre6 enc Try.prog Try.f14 Rows.firmPlaysRow.domain false) (Rows.firmPlaysSpec.post enc Try.prog Try.f14 false true false false) := by
  refine returnsInHanded_of_change (C := Try.checked) own started (by kernel_rfl) Try.func14
    (ChangeSpec.witness6 (enc := enc) (C := Try.checked) false ⟨#[], #[.int .i64 0, .int .i64 0, .slice none 0 0, .int .i64 0], []⟩ 8 (by kernel_rfl) (by kernel_rfl) (by kernel_rfl) (by kernel_rfl)) ?_
  intro W base args ds gs before hval0 hW hcnd _
  have hval : ∀ (j : Nat) t v, Try.f14.params[j]? = some t → args[j]? = some v → Value.okWide Try.prog W .any base t v := hval0
  have hW' := hW
  obtain ⟨p, q, hA0, hV, rfl, hfz, hnd⟩ := hW
  have hA : DataW.TrodAll enc Try.prog W 0 (fun _ => true) true Try.f14.params.toList args.toList ds p := hA0
  rw [Try.params14] at hA hval
  obtain ⟨v0, vs0, d0, ds0, p0, q0, hargs, rfl, rfl, h0, r0⟩ := trodAll_cons hA
  obtain ⟨v1, vs1, d1, ds1, p1, q1, rfl, rfl, rfl, h1, r1⟩ := trodAll_cons r0
  obtain ⟨v2, vs2, d2, ds2, p2, q2, rfl, rfl, rfl, h2, r2⟩ := trodAll_cons r1
  obtain ⟨v3, vs3, d3, ds3, p3, q3, rfl, rfl, rfl, h3, r3⟩ := trodAll_cons r2
  obtain ⟨rfl, rfl, rfl⟩ := trodAll_nil r3
  obtain rfl : args = #[v0, v1, v2, v3] := by cases args; simp_all
  obtain ⟨rfl, rfl⟩ := trodVars_none hV
  obtain ⟨a0, rfl, rfl, rfl, w0⟩ := open_int Try.underlying3 (hval 0 3 v0 rfl rfl) h0
  obtain ⟨a1, rfl, rfl, rfl, w1⟩ := open_int Try.underlying3 (hval 1 3 v1 rfl rfl) h1
  obtain ⟨A2, n2, c2, rfl⟩ := okWide_slice Try.underlying32 (hval 2 32 v2 rfl rfl)
  have k2 := h2
  have lt2 : ∀ x ∈ p2, x.block < W.heap.size := by obtain ⟨m, hm⟩ := k2; exact DataW.trod_lt m _ _ _ hm
  obtain ⟨x2, w2⟩ : ∃ xs, Row (fun x : Bool => [Value.bool x]) 1 W A2 n2 xs := by
    obtain ⟨fuel, hf⟩ := h2
    exact open_row _ 1 (by omega) Try.underlying32 (by kernel_rfl) (el_bool Try.underlying4) (by simpa [Value.cells] using hf)
  obtain ⟨a3, rfl, rfl, rfl, w3⟩ := open_int Try.underlying3 (hval 3 3 v3 rfl rfl) h3
  clear hA0 hval0
  refine (walk a0 a1 A2 n2 c2 x2 a3 W w0 w1 w2 w3).mono fun e W' ⟨he, bel⟩ => ?_
  subst he
  exact ⟨_, rfl, _, _, _, [], _, [], hW', trodAll_mk1 (shut_bool Try.underlying4 _), (trodAll_cons_mk (shut_int Try.underlying3 w0) (trodAll_cons_mk (shut_int Try.underlying3 w1) (trodAll_cons_mk (Below.trod laidOut (by kernel_rfl) (of_decide_eq_true (by kernel_rfl)) k2 bel lt2) (trodAll_cons_mk (shut_int Try.underlying3 w3) trodAll_mk0)))), rfl, bel.frame _, fun h => by cases h⟩
theorem over : Rows.firmPlaysRow.holds Try.pinned (OpenSpec.ofChange Rows.firmPlaysSpec) :=
  OpenClaim.holds_of_wide 14 Try.f14 rfl rfl rfl rfl rfl rfl rfl ⟨rfl, rfl, rfl, rfl, rfl⟩ rfl rfl rfl rfl rfl (by kernel_rfl) Try.func14 (by kernel_rfl)
    (of_decide_eq_true (by kernel_rfl)) (by unfold Func.isWrapper; first | (rw [if_pos (by decide +kernel)]; kernel_rfl) | (rw [if_neg (by decide +kernel)]; exact ⟨rfl, rfl⟩))
    (fun os started H enc _ => lifted os started H enc)
/-- The statement. -/
theorem proved : Rows.FirmPlaysSaid := over
#print axioms proved
end FirmPlays
end Go.Proofs.Ytpfhogbkbodfjab
