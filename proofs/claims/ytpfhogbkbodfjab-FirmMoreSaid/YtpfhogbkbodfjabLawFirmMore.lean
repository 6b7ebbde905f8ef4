/- The law FirmMore returns true at every input and leaves its arguments alone. Conditions: none. -/
import Derived.Test.YtpfhogbkbodfjabAwake16
namespace Go.Proofs.Ytpfhogbkbodfjab
open Go.RowKit Go.ChangeShapes Go.WideShapes Go.ChangeAt Go.Deep
set_option linter.unusedVariables false
set_option linter.unusedSimpArgs false
namespace FirmMore
open Mon Win
/-- Three Monitors of the call's own, apart from each other. -/
structure Mem3 (w : World) (p q r : Nat) (F G H : Nat → Prop) (m n k : Nat) (xs ys zs : List Bool) (ls bs cs : List Nat) (wr : World) : Prop where
  P : Is wr p F m k xs ls
  Q : Is wr q G m k ys bs
  R : Is wr r H n k zs cs
  bF : ∀ b, F b → w.heap.size ≤ b
  bG : ∀ b, G b → w.heap.size ≤ b
  bH : ∀ b, H b → w.heap.size ≤ b
  dFG : ∀ b, F b → ¬ G b
  dFH : ∀ b, F b → ¬ H b
  dGH : ∀ b, G b → ¬ H b
  B : Below w.heap.size w wr
section
variable {w : World} {p q r m n k : Nat} {F G H : Nat → Prop} {xs ys zs : List Bool} {ls bs cs : List Nat} {w1 w2 : World}
theorem Mem3.keep (h : Mem3 w p q r F G H m n k xs ys zs ls bs cs w1) (kp : Keeps (fun _ => False) w1 w2) : Mem3 w p q r F G H m n k xs ys zs ls bs cs w2 :=
  ⟨h.P.stay kp, h.Q.stay kp, h.R.stay kp, h.bF, h.bG, h.bH, h.dFG, h.dFH, h.dGH, below_keeps h.B kp h.B.size (fun _ h => h.elim)⟩
theorem Mem3.onP (h : Mem3 w p q r F G H m n k xs ys zs ls bs cs w1) {F' : Nat → Prop} {xs' : List Bool} {ls' : List Nat} (kp : Keeps F w1 w2) (hI : Is w2 p F' m k xs' ls') (hF : ∀ b, F' b → F b ∨ w1.heap.size ≤ b) : Mem3 w p q r F' G H m n k xs' ys zs ls' bs cs w2 :=
  ⟨hI, h.Q.kept kp (fun b hb hf => h.dFG b hf hb), h.R.kept kp (fun b hb hf => h.dFH b hf hb), fun b hb => (hF b hb).elim (h.bF b) (fun h' => Nat.le_trans h.B.size h'), h.bG, h.bH,
    fun b hb hg => (hF b hb).elim (fun hf => h.dFG b hf hg) (fun h' => by have := h.Q.lt b hg; omega), fun b hb hg => (hF b hb).elim (fun hf => h.dFH b hf hg) (fun h' => by have := h.R.lt b hg; omega), h.dGH, below_keeps h.B kp h.B.size h.bF⟩
theorem Mem3.onQ (h : Mem3 w p q r F G H m n k xs ys zs ls bs cs w1) {G' : Nat → Prop} {ys' : List Bool} {bs' : List Nat} (kp : Keeps G w1 w2) (hI : Is w2 q G' m k ys' bs') (hG : ∀ b, G' b → G b ∨ w1.heap.size ≤ b) : Mem3 w p q r F G' H m n k xs ys' zs ls bs' cs w2 :=
  ⟨h.P.kept kp (fun b hb hf => h.dFG b hb hf), hI, h.R.kept kp (fun b hb hf => h.dGH b hf hb), h.bF, fun b hb => (hG b hb).elim (h.bG b) (fun h' => Nat.le_trans h.B.size h'), h.bH,
    fun b hb hg => (hG b hg).elim (fun hf => h.dFG b hb hf) (fun h' => by have := h.P.lt b hb; omega), h.dFH, fun b hb hg => (hG b hb).elim (fun hf => h.dGH b hf hg) (fun h' => by have := h.R.lt b hg; omega), below_keeps h.B kp h.B.size h.bG⟩
theorem Mem3.onR (h : Mem3 w p q r F G H m n k xs ys zs ls bs cs w1) {H' : Nat → Prop} {zs' : List Bool} {cs' : List Nat} (kp : Keeps H w1 w2) (hI : Is w2 r H' n k zs' cs') (hH : ∀ b, H' b → H b ∨ w1.heap.size ≤ b) : Mem3 w p q r F G H' m n k xs ys zs' ls bs cs' w2 :=
  ⟨h.P.kept kp (fun b hb hf => h.dFH b hb hf), h.Q.kept kp (fun b hb hf => h.dGH b hb hf), hI, h.bF, h.bG, fun b hb => (hH b hb).elim (h.bH b) (fun h' => Nat.le_trans h.B.size h'),
    h.dFG, fun b hb hg => (hH b hg).elim (fun hf => h.dFH b hb hf) (fun h' => by have := h.P.lt b hb; omega), fun b hb hg => (hH b hg).elim (fun hf => h.dGH b hb hf) (fun h' => by have := h.Q.lt b hb; omega), below_keeps h.B kp h.B.size h.bH⟩
end
/-- More met ones, row by row. -/
def Le (xs ys : List Bool) : Prop := xs.length = ys.length ∧ ∀ i : Nat, xs[i]? = some true → ys[i]? = some true
theorem Le.nil : Le [] [] := ⟨rfl, fun _ h => h⟩
theorem Le.snoc {xs ys : List Bool} (h : Le xs ys) {x y : Bool} (hxy : x = true → y = true) : Le (xs ++ [x]) (ys ++ [y]) := by
  refine ⟨by simp [h.1], fun i hi => ?_⟩
  by_cases hlt : i < xs.length
  · rw [List.getElem?_append_left hlt] at hi
    rw [List.getElem?_append_left (by rw [← h.1]; exact hlt)]
    exact h.2 i hi
  · rw [List.getElem?_append_right (by omega)] at hi
    rw [List.getElem?_append_right (by rw [← h.1]; omega), ← h.1]
    cases hd : i - xs.length with
    | zero => rw [hd] at hi; simp at hi ⊢; exact hxy hi
    | succ d => rw [hd] at hi; simp at hi
theorem bad_le {m n k : Nat} {xs ys : List Bool} (h : Le xs ys) (hn : n ≤ m) (hb : bad n k ys = true) : bad m k xs = true := by
  have hw := W_mono k xs ys h.1 h.2
  unfold bad at hb ⊢
  simp at hb ⊢
  rw [h.1]
  omega
theorem Le.refl (xs : List Bool) : Le xs xs := ⟨rfl, fun _ h => h⟩
/-- What holds at each round's start. -/
def Inv (w : World) (p q r m n k n1 : Nat) (x1 : List Bool) (i : Value) (wr : World) : Prop :=
  ∃ (j : Nat) (F G H : Nat → Prop) (ys : List Bool) (ls bs cs : List Nat), j ≤ n1 ∧ i = .int .i64 (j : Int) ∧ Mem3 w p q r F G H m n k (x1.take j) ys (x1.take j) ls bs cs wr ∧ Hid (Le (x1.take j) ys ∧ bs.length ≤ ls.length ∧ cs.length ≤ ls.length ∧ ls.length ≤ j)
set_option maxRecDepth 100000 in
set_option maxHeartbeats 8000000 in
theorem walk_in (m n k : Nat) (at_ : Int) (A1 : Option Addr) (n1 c1 : Nat) (x1 : List Bool) (w : World) (r1 : Row (fun x : Bool => [Value.bool x]) 1 w A1 n1 x1) (hmn : m = n + 1) (h1 : 1 ≤ k) (h2 : k ≤ 64) (hm : m ≤ k) (hn : n1 ≤ 100) (ha : 0 ≤ at_) :
    Calls Try.prog 11 #[.int .i64 (m : Int), .int .i64 (k : Int), .slice A1 n1 c1, .int .i64 at_] w fun e w' => e = .returned (.bool true) ∧ Below w.heap.size w w' := by
  have g1 : (1 : Int) ≤ (k : Int) := by omega
  have g2 : (k : Int) ≤ 64 := by omega
  have g3 : (m : Int) ≤ (k : Int) := by omega
  have g4 : (1 : Int) ≤ (m : Int) := by omega
  have g5 : (n1 : Int) ≤ 100 := by omega
  have hn' : n ≤ k := by omega
  have hnm : n ≤ m := by omega
  have hmi : (m : Int) - 1 = (n : Int) := by omega
  have HMI := Lib.hid hmi
  have HXL := Lib.hid r1.1
  clear hmn hmi
  go_enter Try.func11, Try.ntmps11
  go_wp2_with fail
  refine (awake_ok w).mono ?_
  rintro e wa ⟨rfl, ba⟩
  go_wp2_with fail
  refine (new_is m k wa h1 h2 hm).mono ?_
  rintro e wb ⟨p, F, rfl, P1, pF, kb⟩
  have bb1 := below_keeps ba kb ba.size (fun _ h => h.elim)
  go_wp2_with fail
  refine (new_is m k wb h1 h2 hm).mono ?_
  rintro e wc ⟨q, G, rfl, Q1, pG, kc⟩
  have bb2 := below_keeps bb1 kc bb1.size (fun _ h => h.elim)
  go_wp2_with fail
  rw [HMI.out]
  refine (new_is n k wc h1 h2 hn').mono ?_
  rintro e wd ⟨r, H, rfl, R1, pH, kd⟩
  have bb3 := below_keeps bb2 kd bb2.size (fun _ h => h.elim)
  have M0 : Mem3 w p q r F G H m n k [] [] [] [] [] [] wd := ⟨(P1.stay kc).stay kd, Q1.stay kd, R1, fun b hb => Nat.le_trans ba.size (pF b hb), fun b hb => Nat.le_trans bb1.size (pG b hb), fun b hb => Nat.le_trans bb2.size (pH b hb),
    fun b hb hg => by have := P1.lt b hb; have := pG b hg; omega, fun b hb hg => by have := P1.lt b hb; have := pH b hg; have := kc.size; omega, fun b hb hg => by have := Q1.lt b hb; have := pH b hg; omega, bb3⟩
  clear ba kb kc kd bb1 bb2 bb3 P1 Q1 R1 pF pG pH
  go_wp2_with fail
  go_loopw [15] (fun i wr => Inv w p q r m n k n1 x1 i wr) (fun i _ => n1 - (intOf i).toNat)
  case atStart => exact ⟨0, F, G, H, [], [], [], [], Nat.zero_le _, rfl, M0, Lib.hid ⟨Le.nil, Nat.le_refl _, Nat.le_refl _, Nat.le_refl _⟩⟩
  case round =>
    clear M0
    obtain ⟨j, F, G, H, ys, ls, bs, cs, hj, rfl, M, HX⟩ := hrel
    have hxn : (x1.take j).length = j := by rw [List.length_take]; have := HXL.out; omega
    have hyn : ys.length = j := by rw [← HX.out.1.1, hxn]
    have HXN := Lib.hid hxn
    have HYN := Lib.hid hyn
    have hba : ls.length ≤ 300 := by have := HX.out.2.2.2; omega
    have hbb : bs.length ≤ 300 := by have := HX.out.2.1; omega
    have hbc : cs.length ≤ 300 := by have := HX.out.2.2.1; omega
    clear hxn hyn
    by_cases hlt : j < n1
    · obtain ⟨bb, off, y, rfl, hy, hbl0, hc⟩ := r1.at1 M.B hlt
      have HTK : Hid (x1.take j ++ [y] = x1.take (j + 1)) := Lib.hid (take_next hy).symm
      have hj0 : (0 : Int) ≤ (j : Int) := by omega
      have hj1 : (j : Int) < (n1 : Int) := by omega
      clear hy
      cases y with
      | true =>
        go_wp2_with fail
        refine (add_is true M.P h1 h2 hm (by rw [HXN.out]; omega) hba).mono ?_
        rw [HTK.out]
        generalize hA : bad m k (x1.take (j + 1)) = a
        rw [HXN.out]
        rintro e w3 ⟨rfl, ⟨F3, P3, f3⟩, k3⟩
        have M3 := M.onP k3 P3 f3
        have hc3 : w3.cell? ⟨bb, off + j, none⟩ = some (.bool true) := by
          rw [World.cell?_of_block (a := ⟨bb, off + j, none⟩) (k3.block bb (by have := M.B.size; omega) (fun h => by have := M.bF _ h; omega))]; exact hc
        clear M P3 f3 k3 hc
        go_wp2_with fail
        refine (add_is true M3.Q h1 h2 hm (by rw [HYN.out]; omega) hbb).mono ?_
        generalize hB : bad m k (ys ++ [true]) = b
        have HLE : Hid (Le (x1.take (j + 1)) (ys ++ [true])) := Lib.hid (by rw [← HTK.out]; exact HX.out.1.snoc (fun _ => rfl))
        rw [HYN.out]
        rintro e w4 ⟨rfl, ⟨G4, Q4, f4⟩, k4⟩
        have M4 := M3.onQ k4 Q4 f4
        have hc4 : w4.cell? ⟨bb, off + j, none⟩ = some (.bool true) := by
          rw [World.cell?_of_block (a := ⟨bb, off + j, none⟩) (k4.block bb (by have := M3.B.size; omega) (fun h => by have := M3.bG _ h; omega))]; exact hc3
        clear M3 Q4 f4 k4 hc3
        go_wp2_with fail
        refine (add_is true M4.R h1 h2 hn' (by rw [HXN.out]; omega) hbc).mono ?_
        rw [HTK.out]
        generalize hC : bad n k (x1.take (j + 1)) = c
        rw [HXN.out]
        rintro e w5 ⟨rfl, ⟨H5, R5, f5⟩, k5⟩
        have M5 := M4.onR k5 R5 f5
        clear M4 R5 f5 k5 hc4
        have hba' : b = true → a = true := fun h => by rw [← hA]; exact bad_le (HLE.out) (Nat.le_refl m) (hB.trans h)
        have hca' : c = true → a = true := fun h => by rw [← hA]; exact bad_le (Le.refl _) hnm (hC.trans h)
        have HLEN := HX.out.2
        have HE := Lib.hid HLEN
        clear hA hB hC HLEN
        cases a with
        | true =>
          cases b <;> cases c
          all_goals
            clear hba' hca'
            simp only [Bool.not_true, Bool.not_false]
            go_wp2_with fail
            go_roundw
            case rel => exact ⟨j + 1, F3, G4, H5, _, _, _, _, by omega, by go_num, M5, Lib.hid ⟨HLE.out, by have := HE.out; simp; omega, by have := HE.out; simp; omega, by have := HE.out; simp; omega⟩⟩
            case measure => simp [intOf] <;> omega
        | false =>
          cases b with
          | true => exact absurd (hba' rfl) (by decide)
          | false =>
            cases c with
            | true => exact absurd (hca' rfl) (by decide)
            | false =>
              clear hba' hca'
              simp only [Bool.not_false]
              go_wp2_with fail
              go_roundw
              case rel => exact ⟨j + 1, F3, G4, H5, _, _, _, _, by omega, by go_num, M5, Lib.hid ⟨HLE.out, by have := HE.out; simp; omega, by have := HE.out; simp; omega, by have := HE.out; simp; omega⟩⟩
              case measure => simp [intOf] <;> omega
      | false =>
        obtain ⟨y2, hy2⟩ : ∃ y2, ((j : Int) == at_) = y2 := ⟨_, rfl⟩
        go_wp2_with fail
        refine (add_is false M.P h1 h2 hm (by rw [HXN.out]; omega) hba).mono ?_
        rw [HTK.out]
        generalize hA : bad m k (x1.take (j + 1)) = a
        rw [HXN.out]
        rintro e w3 ⟨rfl, ⟨F3, P3, f3⟩, k3⟩
        have M3 := M.onP k3 P3 f3
        have hc3 : w3.cell? ⟨bb, off + j, none⟩ = some (.bool false) := by
          rw [World.cell?_of_block (a := ⟨bb, off + j, none⟩) (k3.block bb (by have := M.B.size; omega) (fun h => by have := M.bF _ h; omega))]; exact hc
        clear M P3 f3 k3 hc
        go_wp2_with fail
        refine (add_is y2 M3.Q h1 h2 hm (by rw [HYN.out]; omega) hbb).mono ?_
        generalize hB : bad m k (ys ++ [y2]) = b
        have HLE : Hid (Le (x1.take (j + 1)) (ys ++ [y2])) := Lib.hid (by rw [← HTK.out]; exact HX.out.1.snoc (fun h => nomatch h))
        rw [HYN.out]
        rintro e w4 ⟨rfl, ⟨G4, Q4, f4⟩, k4⟩
        clear hy2
        have M4 := M3.onQ k4 Q4 f4
        have hc4 : w4.cell? ⟨bb, off + j, none⟩ = some (.bool false) := by
          rw [World.cell?_of_block (a := ⟨bb, off + j, none⟩) (k4.block bb (by have := M3.B.size; omega) (fun h => by have := M3.bG _ h; omega))]; exact hc3
        clear M3 Q4 f4 k4 hc3
        go_wp2_with fail
        refine (add_is false M4.R h1 h2 hn' (by rw [HXN.out]; omega) hbc).mono ?_
        rw [HTK.out]
        generalize hC : bad n k (x1.take (j + 1)) = c
        rw [HXN.out]
        rintro e w5 ⟨rfl, ⟨H5, R5, f5⟩, k5⟩
        have M5 := M4.onR k5 R5 f5
        clear M4 R5 f5 k5 hc4
        have hba' : b = true → a = true := fun h => by rw [← hA]; exact bad_le (HLE.out) (Nat.le_refl m) (hB.trans h)
        have hca' : c = true → a = true := fun h => by rw [← hA]; exact bad_le (Le.refl _) hnm (hC.trans h)
        have HLEN := HX.out.2
        have HE := Lib.hid HLEN
        clear hA hB hC HLEN
        cases a with
        | true =>
          cases b <;> cases c
          all_goals
            clear hba' hca'
            simp only [Bool.not_true, Bool.not_false]
            go_wp2_with fail
            go_roundw
            case rel => exact ⟨j + 1, F3, G4, H5, _, _, _, _, by omega, by go_num, M5, Lib.hid ⟨HLE.out, by have := HE.out; simp; omega, by have := HE.out; simp; omega, by have := HE.out; simp; omega⟩⟩
            case measure => simp [intOf] <;> omega
        | false =>
          cases b with
          | true => exact absurd (hba' rfl) (by decide)
          | false =>
            cases c with
            | true => exact absurd (hca' rfl) (by decide)
            | false =>
              clear hba' hca'
              simp only [Bool.not_false]
              go_wp2_with fail
              go_roundw
              case rel => exact ⟨j + 1, F3, G4, H5, _, _, _, _, by omega, by go_num, M5, Lib.hid ⟨HLE.out, by have := HE.out; simp; omega, by have := HE.out; simp; omega, by have := HE.out; simp; omega⟩⟩
              case measure => simp [intOf] <;> omega
    · obtain rfl : j = n1 := by omega
      have hBP := fun W (h : Is W p F m k (x1.take j) ls) => broken_is h (by omega)
      have hBQ := fun W (h : Is W q G m k ys bs) => broken_is h (by omega)
      have hBR := fun W (h : Is W r H n k (x1.take j) cs) => broken_is h (by omega)
      obtain ⟨la, hla⟩ : ∃ v, ls.length = v := ⟨_, rfl⟩
      obtain ⟨lb, hlb⟩ : ∃ v, bs.length = v := ⟨_, rfl⟩
      obtain ⟨lc, hlc⟩ : ∃ v, cs.length = v := ⟨_, rfl⟩
      have l1 := HX.out.2.1
      have l2 := HX.out.2.2.1
      rw [hla] at hBP l1 l2
      rw [hlb] at hBQ l1
      rw [hlc] at hBR l2
      have HBP := Lib.hid hBP
      have HBQ := Lib.hid hBQ
      have HBR := Lib.hid hBR
      have l3 : (lb : Int) ≤ (la : Int) := by omega
      have l4 : (lc : Int) ≤ (la : Int) := by omega
      have l5 : decide (lb ≤ la) = true := by simpa using l1
      have l6 : decide (lc ≤ la) = true := by simpa using l2
      have l7 : decide ((lb : Int) ≤ (la : Int)) = true := by simpa using l1
      have l8 : decide ((lc : Int) ≤ (la : Int)) = true := by simpa using l2
      clear hBP hBQ hBR hla hlb hlc hba hbb hbc
      go_wp2_with fail
      refine (HBQ.out _ M.Q).mono ?_
      rintro e w3 ⟨A3, c3, rfl, _, k3⟩
      have M3 := M.keep k3
      clear M k3
      go_wp2_with fail
      refine (HBP.out _ M3.P).mono ?_
      rintro e w4 ⟨A4, c4, rfl, _, k4⟩
      have M4 := M3.keep k4
      clear M3 k4
      go_wp2_with fail
      refine (HBR.out _ M4.R).mono ?_
      rintro e w5 ⟨A5, c5, rfl, _, k5⟩
      have M5 := M4.keep k5
      clear M4 k5
      go_wp2_with fail
      refine (HBP.out _ M5.P).mono ?_
      rintro e w6 ⟨A6, c6, rfl, _, k6⟩
      have M6 := M5.keep k6
      clear M5 k6
      go_wp2_with fail
      go_ret
      exact ⟨rfl, M6.B⟩
set_option maxRecDepth 100000 in
set_option maxHeartbeats 1000000 in
theorem walk_out (m k at_ : Int) (A1 : Option Addr) (n1 c1 : Nat) (w : World) (hm1 : n1 ≤ 9223372036854775807) (h : ¬ (1 ≤ k ∧ k ≤ 64 ∧ 1 ≤ m ∧ m ≤ k ∧ n1 ≤ 100 ∧ 0 ≤ at_)) :
    Calls Try.prog 11 #[.int .i64 m, .int .i64 k, .slice A1 n1 c1, .int .i64 at_] w fun e w' => e = .returned (.bool true) ∧ Below w.heap.size w w' := by
  go_enter Try.func11, Try.ntmps11
  go_wp2_with fail
  refine (awake_ok w).mono ?_
  rintro e wa ⟨rfl, ba⟩
  by_cases a1 : k < 1
  · clear h
    go_wp2_with fail
    go_ret
    exact ⟨rfl, ba⟩
  · by_cases a2 : 64 < k
    · clear h
      go_wp2_with fail
      go_ret
      exact ⟨rfl, ba⟩
    · by_cases a3 : m < 1
      · clear h
        go_wp2_with fail
        go_ret
        exact ⟨rfl, ba⟩
      · by_cases a4 : k < m
        · clear h
          go_wp2_with fail
          go_ret
          exact ⟨rfl, ba⟩
        · by_cases a5 : (100 : Int) < (n1 : Int)
          · clear h
            go_wp2_with fail
            go_ret
            exact ⟨rfl, ba⟩
          · have a6 : at_ < 0 := by omega
            clear h
            go_wp2_with fail
            go_ret
            exact ⟨rfl, ba⟩
theorem walk (m k : Int) (A1 : Option Addr) (n1 c1 : Nat) (x1 : List Bool) (at_ : Int) (w : World) (w0 : (Lit.int .i64 m).wf = true) (w1 : (Lit.int .i64 k).wf = true) (r1 : Row (fun x : Bool => [Value.bool x]) 1 w A1 n1 x1) (w3 : (Lit.int .i64 at_).wf = true) :
    Calls Try.prog 11 #[.int .i64 m, .int .i64 k, .slice A1 n1 c1, .int .i64 at_] w fun e w' => e = .returned (.bool true) ∧ Below w.heap.size w w' := by
  by_cases h : 1 ≤ k ∧ k ≤ 64 ∧ 1 ≤ m ∧ m ≤ k ∧ n1 ≤ 100 ∧ 0 ≤ at_
  · obtain ⟨K, rfl⟩ := Int.eq_ofNat_of_zero_le (show 0 ≤ k by omega)
    obtain ⟨M, rfl⟩ := Int.eq_ofNat_of_zero_le (show 0 ≤ m by omega)
    exact walk_in M (M - 1) K at_ A1 n1 c1 x1 w r1 (by omega) (by omega) (by omega) (by omega) (by omega) h.2.2.2.2.2
  · have m1 := r1.2.1
    unfold maxLen at m1
    exact walk_out m k at_ A1 n1 c1 w m1 h
theorem own : ownKnob Try.prog.godebug = none := by kernel_rfl
theorem laidOut : laidOutB Try.prog = true := by kernel_rfl
set_option maxRecDepth 100000 in
theorem lifted (os : Os) (started : os.Started) (H : Type) (enc : TypeId × Value → H) :
    ReturnsInHanded {} Try.checked os 11 .any (Rows.firmMoreSpec.pre6 enc Try.prog Try.f11 Rows.firmMoreRow.domain false) (Rows.firmMoreSpec.post enc Try.prog Try.f11 false true false false) := by
  refine returnsInHanded_of_change (C := Try.checked) own started (by kernel_rfl) Try.func11
    (ChangeSpec.witness6 (enc := enc) (C := Try.checked) false ⟨#[], #[.int .i64 0, .int .i64 0, .slice none 0 0, .int .i64 0], []⟩ 8 (by kernel_rfl) (by kernel_rfl) (by kernel_rfl) (by kernel_rfl)) ?_
  intro W base args ds gs before hval0 hW hcnd _
  have hval : ∀ (j : Nat) t v, Try.f11.params[j]? = some t → args[j]? = some v → Value.okWide Try.prog W .any base t v := hval0
  have hW' := hW
  obtain ⟨p, q, hA0, hV, rfl, hfz, hnd⟩ := hW
  have hA : DataW.TrodAll enc Try.prog W 0 (fun _ => true) true Try.f11.params.toList args.toList ds p := hA0
  rw [Try.params11] at hA hval
  obtain ⟨v0, vs0, d0, ds0, p0, q0, hargs, rfl, rfl, h0, r0⟩ := trodAll_cons hA
  obtain ⟨v1, vs1, d1, ds1, p1, q1, rfl, rfl, rfl, h1, r1⟩ := trodAll_cons r0
  obtain ⟨v2, vs2, d2, ds2, p2, q2, rfl, rfl, rfl, h2, r2⟩ := trodAll_cons r1
  obtain ⟨v3, vs3, d3, ds3, p3, q3, rfl, rfl, rfl, h3, r3⟩ := trodAll_cons r2
  obtain ⟨rfl, rfl, rfl⟩ := trodAll_nil r3
  obtain rfl : args = #[v0, v1, v2, v3] := by cases args; simp_all
  obtain ⟨rfl, rfl⟩ := trodVars_none hV
  obtain ⟨a0, rfl, rfl, rfl, w0⟩ := open_int Try.underlying3 (hval 0 3 v0 rfl rfl) h0
  obtain ⟨a1, rfl, rfl, rfl, w1⟩ := open_int Try.underlying3 (hval 1 3 v1 rfl rfl) h1
  obtain ⟨A2, n2, c2, rfl⟩ := okWide_slice Try.underlying32 (hval 2 32 v2 rfl rfl)
  have k2 := h2
  have lt2 : ∀ x ∈ p2, x.block < W.heap.size := by obtain ⟨m, hm⟩ := k2; exact DataW.trod_lt m _ _ _ hm
  obtain ⟨x2, w2⟩ : ∃ xs, Row (fun x : Bool => [Value.bool x]) 1 W A2 n2 xs := by
    obtain ⟨fuel, hf⟩ := h2
    exact open_row _ 1 (by omega) Try.underlying32 (by kernel_rfl) (el_bool Try.underlying4) (by simpa [Value.cells] using hf)
  obtain ⟨a3, rfl, rfl, rfl, w3⟩ := open_int Try.underlying3 (hval 3 3 v3 rfl rfl) h3
  clear hA0 hval0
  refine (walk a0 a1 A2 n2 c2 x2 a3 W w0 w1 w2 w3).mono fun e W' ⟨he, bel⟩ => ?_
  subst he
  exact ⟨_, rfl, _, _, _, [], _, [], hW', trodAll_mk1 (shut_bool Try.underlying4 _), (trodAll_cons_mk (shut_int Try.underlying3 w0) (trodAll_cons_mk (shut_int Try.underlying3 w1) (trodAll_cons_mk (Below.trod laidOut (by kernel_rfl) (of_decide_eq_true (by kernel_rfl)) k2 bel lt2) (trodAll_cons_mk (shut_int Try.underlying3 w3) trodAll_mk0)))), rfl, bel.frame _, fun h => by cases h⟩
theorem over : Rows.firmMoreRow.holds Try.pinned (OpenSpec.ofChange Rows.firmMoreSpec) :=
  OpenClaim.holds_of_wide 11 Try.f11 rfl rfl rfl rfl rfl rfl rfl ⟨rfl, rfl, rfl, rfl, rfl⟩ rfl rfl rfl rfl rfl (by kernel_rfl) Try.func11 (by kernel_rfl)
    (of_decide_eq_true (by kernel_rfl)) (by unfold Func.isWrapper; first | (rw [if_pos (by decide +kernel)]; kernel_rfl) | (rw [if_neg (by decide +kernel)]; exact ⟨rfl, rfl⟩))
    (fun os started H enc _ => lifted os started H enc)
/-- The statement. -/
theorem proved : Rows.FirmMoreSaid := over
#print axioms proved
end FirmMore
end Go.Proofs.Ytpfhogbkbodfjab
