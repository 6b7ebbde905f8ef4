/- What each function of package firm does to one Monitor; conditions: 1 ≤ k ≤ 64, m ≤ k, at most 1000 were told. -/
import Derived.Test.YtpfhogbkbodfjabWin
import Derived.Test.YtpfhogbkbodfjabSlice
import Derived.Deep.RegionLaw
import Derived.IntWalk
import Derived.LoopTactic
namespace Go.Proofs.Ytpfhogbkbodfjab
open Go.RowKit
set_option linter.unusedVariables false
set_option linter.unusedSimpArgs false
namespace Mon
open Win
theorem infoI : (Try.prog.info? 3).map (fun i => (i.zero, i.size, i.bytes)) = some (some (.int .i64 0), 1, 8) := by kernel_rfl
def nums (fr : List Nat) : List Value := fr.map fun (i : Nat) => Value.int .i64 (i : Int)
theorem nums_one (fr : List Nat) : ∀ u ∈ nums fr, u.oneCell' = true := by
  intro u hu
  obtain ⟨b, _, rfl⟩ := List.mem_map.1 hu
  rfl
/-- A Monitor's cells behind the row xs. -/
def cs (m k : Nat) (xs : List Bool) (v : Value) : List Value := Ring.mon (m : Int) (k : Int) (k : Int) ((min xs.length k : Nat) : Int) (val xs % 2 ^ k) (xs.length : Int) v ((wst k xs : Nat) : Int)
/-- A Monitor at block p behind the row xs; it tells that it was broken at bs. -/
structure At (w : World) (p : Nat) (A : Option Addr) (c m k : Nat) (xs : List Bool) (bs : List Nat) : Prop where
  Bl : Blk w p 144 (cs m k xs (.slice A bs.length c))
  B : w.ownsRow 0 3 1 (.slice A bs.length c) bs.length (nums bs)
def Foot (p : Nat) (A : Option Addr) (b : Nat) : Prop := b = p ∨ (Value.slice A 0 0).ownBlock = some b
theorem own_same (A : Option Addr) (n c n' c' : Nat) : (Value.slice A n c).ownBlock = (Value.slice A n' c').ownBlock := by cases A <;> rfl
section
variable {w w' : World} {p c m k : Nat} {A : Option Addr} {xs : List Bool} {bs : List Nat} {S : Nat → Prop}
theorem At.kept (h : At w p A c m k xs bs) (kp : Keeps S w w') (hS : ∀ b, Foot p A b → ¬ S b) : At w' p A c m k xs bs :=
  ⟨h.Bl.kept kp (hS p (.inl rfl)), own_kept h.B kp (fun g _ _ hg => hS g (.inr ((own_same A _ _ _ _).trans hg)))⟩
theorem At.stay (h : At w p A c m k xs bs) (kp : Keeps (fun _ => False) w w') : At w' p A c m k xs bs := h.kept kp fun _ _ h => h
theorem At.lt (h : At w p A c m k xs bs) : ∀ b, Foot p A b → b < w.heap.size := by
  rintro b (rfl | hb)
  · exact h.Bl.lt
  · exact (h.B.lt b ((own_same A _ _ _ _).trans hb)).2
theorem At.np (h : At w p A c m k xs bs) : (Value.slice A bs.length c).ownBlock ≠ some p := own_type_ne h.B h.Bl (by decide)
end
set_option maxHeartbeats 400000 in
theorem new_any (m k : Nat) (w : World) (h1 : 1 ≤ k) (h2 : k ≤ 64) (hm : m ≤ k) :
    Calls Try.prog 64 #[.int .i64 (m : Int), .int .i64 (k : Int)] w fun e w' => ∃ p, e = .returned (.tuple #[.pointer (some ⟨p, 0, none⟩), .int .i64 0]) ∧ w.heap.size ≤ p ∧ At w' p none 0 m k [] [] ∧ Keeps (fun _ => False) w w' := by
  have h3 : (1 : Int) ≤ (k : Int) := by omega
  have h4 : (k : Int) ≤ 64 := by omega
  have h5 : (m : Int) ≤ (k : Int) := by omega
  have h6 : (0 : Int) ≤ (m : Int) := by omega
  go_enter Try.func64, Try.ntmps64
  go_wp2_with fail
  refine (Ring.new_any (k : Int) w h3 h4).mono ?_
  rintro e w1 ⟨q, rfl, hq, R1, k1⟩
  have r0 := R1.cellAt (i := 0) rfl
  have r1 := R1.cellAt (i := 1) rfl
  have r2 := R1.cellAt (i := 2) rfl
  have z1 := k1.size
  go_wp2_with fail
  go_ret2
  refine ⟨_, rfl, z1, ⟨?_, World.ownsRow_nil _ _ _ _⟩, k1.alloc _⟩
  have hc : cs m k [] (.slice none ([] : List Nat).length 0) = Ring.mon (m : Int) (k : Int) (k : Int) 0 0 0 (.slice none 0 0) (k : Int) := by
    unfold cs wst wstN val
    simp
  rw [hc]
  exact Blk.new w1 _ (Ring.mon (m : Int) (k : Int) (k : Int) 0 0 0 (.slice none 0 0) (k : Int))
set_option maxHeartbeats 400000 in
theorem new_no (m k : Int) (w : World) (h : ¬ (1 ≤ k ∧ k ≤ 64 ∧ 0 ≤ m ∧ m ≤ k)) :
    Calls Try.prog 64 #[.int .i64 m, .int .i64 k] w fun e w' => e = .returned (.tuple #[.pointer none, .int .i64 1]) ∧ Keeps (fun _ => False) w w' := by
  by_cases hk : 1 ≤ k ∧ k ≤ 64
  · obtain ⟨h1, h2⟩ := hk
    by_cases h0 : m < 0
    · clear h
      go_enter Try.func64, Try.ntmps64
      go_wp2_with fail
      refine (Ring.new_any k w h1 h2).mono ?_
      rintro e w1 ⟨q, rfl, hq, R1, k1⟩
      clear R1
      go_wp2_with fail
      go_ret2
      exact ⟨rfl, k1⟩
    · have h3 : k < m := by omega
      clear h
      go_enter Try.func64, Try.ntmps64
      go_wp2_with fail
      refine (Ring.new_any k w h1 h2).mono ?_
      rintro e w1 ⟨q, rfl, hq, R1, k1⟩
      clear R1
      go_wp2_with fail
      go_ret2
      exact ⟨rfl, k1⟩
  · have h3 : k < 1 ∨ 64 < k := by omega
    clear h hk
    go_enter Try.func64, Try.ntmps64
    go_wp2_with fail
    refine (Ring.new_no k w h3).mono ?_
    rintro e w1 ⟨rfl, rfl⟩
    go_wp2_with fail
    go_ret2
    exact ⟨rfl, Keeps.refl _ _⟩
set_option maxHeartbeats 1000000 in
theorem add_short (p : Nat) (A : Option Addr) (c m k : Nat) (xs : List Bool) (bs : List Nat) (y : Bool) (w : World) (h : At w p A c m k xs bs) (h1 : 1 ≤ k) (h2 : k ≤ 64) (hm : m ≤ k) (hl : xs.length ≤ 999) (hs : xs.length + 1 < k) :
    Calls Try.prog 65 #[.pointer (some ⟨p, 0, none⟩), .bool y] w fun e w' => e = .returned (.bool true) ∧ At w' p A c m k (xs ++ [y]) bs ∧ Keeps (Foot p A) w w' := by
  have hmn : (0 : Int) ≤ ((min xs.length k : Nat) : Int) := by omega
  have hmk : ((min xs.length k : Nat) : Int) ≤ (k : Int) := by omega
  have hk1 : (1 : Int) ≤ (k : Int) := by omega
  have hk2 : (k : Int) ≤ 64 := by omega
  have hlt := h.lt
  have HLT := Lib.hid hlt
  have hnp := h.np
  have hB := h.B
  have hBl := h.Bl
  clear hlt h
  go_enter Try.func65, Try.ntmps65
  go_wp2_with fail
  refine (Ring.add_in p _ _ _ _ _ _ _ _ y w hk1 hk2 hmn hmk hBl).mono ?_
  rintro e w1 ⟨rfl, B1, k1⟩
  have O1 := own_kept hB k1 (fun g _ _ hg e => hnp (by rw [← e]; exact hg))
  rw [Win.addB_val, show min (((min xs.length k : Nat) : Int) + 1) (k : Int) = ((min (xs ++ [y]).length k : Nat) : Int) by simp; omega] at B1
  have K1 : Keeps (Foot p A) w w1 := k1.mono (fun _ _ h => .inl h)
  clear hBl hB k1 hmn hmk
  have c1 := B1.cellAt (i := 1) rfl
  have c5 := B1.cellAt (i := 5) rfl
  have f1 := B1.frozen
  have hx0 : (0 : Int) ≤ (xs.length : Int) := by omega
  have hx1 : (xs.length : Int) ≤ 1000 := by omega
  have B2 := B1.set_ 5 (.int .i64 ((xs.length : Int) + 1))
  have O2 := own_kept O1 (S := (· = p)) ((keep1 p w1).setCell ⟨p, 5, none⟩ (.inl rfl) (.int .i64 ((xs.length : Int) + 1))) (fun g _ _ hg e => hnp (by rw [← e]; exact hg))
  have K2 := K1.setCell ⟨p, 5, none⟩ (.inl (.inl rfl)) (.int .i64 ((xs.length : Int) + 1))
  go_wp2_with fail
  clear c1 c5 f1 B1 O1 K1
  generalize w1.setCell ⟨p, 5, none⟩ (.int .i64 ((xs.length : Int) + 1)) = w2 at *
  have d1 : w2.cell? ⟨p, 1, none⟩ = some (.int .i64 (k : Int)) := B2.cellAt (i := 1) rfl
  have d5 : w2.cell? ⟨p, 5, none⟩ = some (.int .i64 ((xs.length : Int) + 1)) := B2.cellAt (i := 5) rfl
  have hs' : (xs.length : Int) + 1 < (k : Int) := by omega
  go_quiet (fail)
  go_wp2_with fail
  go_ret
  refine ⟨rfl, ⟨?_, own_kept O2 (S := fun _ => False) ((Keeps.refl _ _).drewN _) (fun _ _ _ _ h => h)⟩, K2.drewN _⟩
  unfold cs
  rw [wst_snoc, if_neg (by omega)]
  have := B2.drewN nq
  simpa [Ring.mon] using this
end Mon
end Go.Proofs.Ytpfhogbkbodfjab
