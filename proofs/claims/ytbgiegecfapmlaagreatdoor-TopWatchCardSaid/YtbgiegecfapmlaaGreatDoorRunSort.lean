/- The sort of places by their jobs' values, as 'again' asks it; conditions: the runner's own cells. -/
import Derived.Test.YtbgiegecfapmlaaGreatDoorRunMem
import Derived.Test.YtbgiegecfapmlaaGreatDoorShelfB
import Derived.Test.YtbgiegecfapmlaaGreatDoorShelf
import Derived.Sort.LotA
namespace Go.Proofs.YtbgiegecfapmlaaGreatDoor
open Go.RowKit
set_option linter.unusedVariables false
set_option linter.unusedSimpArgs false
theorem keeps_sort1 {α : Type} [Inhabited α] (enc : α → Value) (w : World) (blk off m : Nat) (dk : Array α) (os : Array Obj) : Keeps (· = blk) w (sortWorld enc w blk off m dk os) := by
  refine ⟨rfl, rfl, rfl, ?_, fun i hi hne => ?_⟩
  · show w.heap.size ≤ ((w.heap.modify blk _) ++ os).size
    simp
  · show ((w.heap.modify blk _) ++ os)[i]? = w.heap[i]?
    rw [Array.getElem?_append_left (by simpa using hi), Array.getElem?_modify, if_neg (fun e => hne e.symm)]
theorem keeps_put {α : Type} [Inhabited α] (enc : α → Value) (w : World) (blk off m : Nat) (dk : Array α) : Keeps (· = blk) w ((Go.Sort.putRow enc w blk off dk).drewN m) := by
  refine ⟨rfl, rfl, rfl, ?_, fun i hi hne => ?_⟩
  · show w.heap.size ≤ (w.heap.modify blk _).size
    simp
  · show (w.heap.modify blk _)[i]? = w.heap[i]?
    rw [Array.getElem?_modify, if_neg (fun e => hne e.symm)]
namespace Rob
open Job (jc jv)
section
variable {js : List J}
set_option maxRecDepth 100000 in
set_option maxHeartbeats 4000000 in
theorem cmpV_is {W : World} {X p : Nat} {Aj : Option Addr} {cj : Nat} (hX : W.cell? ⟨X, 0, none⟩ = some (.pointer (some ⟨p, 0, none⟩))) (hp : W.cell? ⟨p, 0, none⟩ = some (.slice Aj js.length cj)) (R : Row jc 8 W Aj js.length js) (x y : Fin js.length) :
    Calls Tryz.prog 112 #[.int .i64 (x.val : Int), .int .i64 (y.val : Int), .pointer (some ⟨X, 0, none⟩)] W fun e w' => e = .returned (.int .i64 (cfV js x y)) ∧ ∃ q, w' = W.drewN q := by
  obtain ⟨b, off, jx, hA, hx, _, _, _, _, _, _, x5, _⟩ := Job.cells8 R x.isLt
  obtain ⟨b', off', jy, hA', hy, _, _, _, _, _, _, y5, _⟩ := Job.cells8 R y.isLt
  rw [hA] at hA'
  cases hA'
  subst hA
  have e1 : valAt js x.val = jx.val := by unfold valAt; rw [hx]; rfl
  have e2 : valAt js y.val = jy.val := by unfold valAt; rw [hy]; rfl
  unfold cfV
  rw [e1, e2]
  have i0 : (0 : Int) ≤ (x.val : Int) := by omega
  have i1 : (x.val : Int) < (js.length : Int) := by have := x.isLt; omega
  have j0 : (0 : Int) ≤ (y.val : Int) := by omega
  have j1 : (y.val : Int) < (js.length : Int) := by have := y.isLt; omega
  clear R hx hy e1 e2
  generalize x.val = i at *
  generalize y.val = j at *
  generalize js.length = n at *
  go_enter Tryz.func112, Tryz.ntmps112
  go_wp2_with fail
  go_quiet ((go_at_call 49; refine Calls.quiet_of_same (Tryz.cmp_Compare_int _ _ _)))
  go_wp2_with fail
  go_ret
  exact ⟨rfl, _, rfl⟩
def fv {n : Nat} (x : Fin n) : Value := .int .i64 (x.val : Int)
theorem fv_one {n : Nat} : OneCell (fv (n := n)) := fun _ => rfl
/-- The rows of places. -/
def nv (l : List Nat) : List Value := l.map fun x : Nat => Value.int .i64 (x : Int)
theorem nv_fins (D : List (Fin js.length)) : nv (D.map (·.val)) = D.map fv := by unfold nv; rw [List.map_map]; rfl
theorem holds_nv {w : World} [Inhabited (Fin js.length)] {g off n c : Nat} {l : List Nat} (h : Has w 3 1 (.slice (some ⟨g, off, none⟩) n c) n (nv l)) (hl : ∀ x ∈ l, x < js.length) : Go.Sort.Holds fv w g off (finsOf js l).toArray := by
  intro j hj
  have hj' : j < (finsOf js l).length := by simpa using hj
  have hln : l.length = n := by have := h.1; simpa [nv] using this
  have hjl : j < l.length := by rw [← finsOf_len l hl]; exact hj'
  obtain ⟨g', off', hA, hc⟩ := h.at_ (by omega)
  cases hA
  refine ⟨?_, h.icy' _⟩
  refine hc j _ ?_
  have e := nv_fins (finsOf js l)
  rw [finsOf_map l hl] at e
  rw [e, getElem!_pos _ j (by simpa using hj')]
  rw [List.getElem?_map, List.getElem?_eq_getElem hj']
  rfl
set_option maxRecDepth 100000 in
set_option maxHeartbeats 4000000 in
theorem ins_none (w : World) (A : Option Addr) (c : Nat) (f : Value) : Calls Tryz.prog 121 #[.slice A 0 c, .int .i64 0, .int .i64 ((0 : Nat) : Int), f] w fun e w' => e = .returned (.tuple #[]) ∧ w' = w := by
  go_enter Tryz.func121, Tryz.ntmps121
  go_wp2_with fail
  go_loopw [8] (fun v wr => v = .int .i64 1 ∧ wr = w) (fun _ _ => 0)
  case atStart => exact ⟨rfl, rfl⟩
  case round =>
    obtain ⟨rfl, rfl⟩ := hrel
    go_wp2_with fail
    go_end0
    exact ⟨rfl, rfl⟩
set_option maxRecDepth 100000 in
set_option maxHeartbeats 4000000 in
theorem stable_of {w : World} {A : Option Addr} {n c : Nat} {f : Value} {Q : World → Prop} (hn : n < 20)
    (C : Calls Tryz.prog 121 #[.slice A n c, .int .i64 0, .int .i64 (n : Int), f] w fun e w' => e = .returned (.tuple #[]) ∧ Q w') :
    Calls Tryz.prog 84 #[.slice A n c, .int .i64 (n : Int), f] w fun e w' => e = .returned (.tuple #[]) ∧ Q w' := by
  have HC := Lib.hid C
  have n1 : ¬ (20 : Int) ≤ (n : Int) := by omega
  have n2 : ¬ (20 : Int) < (n : Int) := by omega
  clear C hn
  go_enter Tryz.func84, Tryz.ntmps84
  go_wp2_with fail
  go_loopw [7, 8] (fun a b wr => a = .int .i64 0 ∧ b = .int .i64 20 ∧ wr = w) (fun _ _ _ => 0)
  case atStart => exact ⟨rfl, rfl, rfl⟩
  case round =>
    obtain ⟨rfl, rfl, rfl⟩ := hrel
    go_wp2_with fail
    refine HC.out.mono ?_
    rintro e w2 ⟨rfl, hw⟩
    have HW := Lib.hid hw
    clear hw
    go_wp2_with fail
    go_loopw [6] (fun a wx => a = .int .i64 20 ∧ wx = w2) (fun _ _ => 0)
    case atStart => exact ⟨rfl, rfl⟩
    case round =>
      obtain ⟨rfl, rfl⟩ := hrel
      go_wp2_with fail
      go_end0
      exact ⟨rfl, HW.out⟩
theorem sortf_of {w : World} {A : Option Addr} {n c : Nat} {f : Value} {Q : World → Prop} (hn : n < 20)
    (C : Calls Tryz.prog 121 #[.slice A n c, .int .i64 0, .int .i64 (n : Int), f] w fun e w' => e = .returned (.tuple #[]) ∧ Q w') :
    Calls Tryz.prog 47 #[.slice A n c, f] w fun e w' => e = .returned (.tuple #[]) ∧ Q w' := by
  have D := stable_of hn C
  clear C hn
  go_enter Tryz.func47, Tryz.ntmps47
  go_wp2_with fail
  refine D.mono ?_
  rintro e w2 ⟨rfl, hw⟩
  have HW := Lib.hid hw
  clear hw D
  go_wp2_with fail
  go_end0
  exact ⟨rfl, HW.out⟩
theorem ins_some [Inhabited (Fin js.length)] (X p : Nat) (w : World) (g off c n : Nat) {l : List Nat} {Aj : Option Addr} {cj : Nat} (h : Has w 3 1 (.slice (some ⟨g, off, none⟩) n c) n (nv l)) (hl : ∀ x ∈ l, x < js.length) (hn : n < 20)
    (hX : w.cell? ⟨X, 0, none⟩ = some (.pointer (some ⟨p, 0, none⟩))) (hp : w.cell? ⟨p, 0, none⟩ = some (.slice Aj js.length cj)) (R : Row jc 8 w Aj js.length js) (gX : g ≠ X) (gp : g ≠ p) (gA : ∀ a, Aj = some a → g ≠ a.block) :
    Calls Tryz.prog 121 #[.slice (some ⟨g, off, none⟩) n c, .int .i64 0, .int .i64 (n : Int), .func (.func 112) #[] #[.pointer (some ⟨X, 0, none⟩)]] w fun e w' =>
      e = .returned (.tuple #[]) ∧ Has w' 3 1 (.slice (some ⟨g, off, none⟩) n c) n ((Go.Sort.insertionSort (ltOf (cfV js)) (finsOf js l).toArray 0 (finsOf js l).length).toList.map fv) ∧ Keeps (· = g) w w' := by
  have hH := holds_nv h hl
  have hln : l.length = n := by have := h.1; simpa [nv] using this
  have hfl := finsOf_len l hl
  have hsz : (finsOf js l).toArray.size = n := by simp [hfl, hln]
  have C := Any.insertionSortCmpFunc_one Tryz.laysInsI fv fv_one (cfV js) 112 #[.pointer (some ⟨X, 0, none⟩)] g off c 0 n (finsOf js l).toArray w
    (enters_of Tryz.func112 (by kernel_rfl) rfl) (fun m os dk _ x y => by
      have K := keeps_sort1 fv w g off m dk os
      have hXl := World.block_lt_of_cell? w _ hX
      have hpl := World.block_lt_of_cell? w _ hp
      have c1 : (sortWorld fv w g off m dk os).cell? ⟨X, 0, none⟩ = some (.pointer (some ⟨p, 0, none⟩)) := by
        rw [World.cell?_of_block (a := ⟨X, 0, none⟩) (K.block X hXl (fun e => gX e.symm))]; exact hX
      have c2 : (sortWorld fv w g off m dk os).cell? ⟨p, 0, none⟩ = some (.slice Aj js.length cj) := by
        rw [World.cell?_of_block (a := ⟨p, 0, none⟩) (K.block p hpl (fun e => gp e.symm))]; exact hp
      exact cmpV_is c1 c2 (Row.kept' R K (fun a ha e => gA a ha e.symm)) x y) hH (Nat.zero_le _) (by omega) (by omega)
  rw [hsz] at C
  rw [hfl, hln]
  refine C.mono ?_
  rintro e w' ⟨rfl, q, rfl⟩
  refine ⟨rfl, ?_, keeps_put _ _ _ _ _ _⟩
  have hPs := (Go.Sort.insertionSort_holds swoV (finsOf js l).toArray 0 n (Nat.zero_le _) (by omega)).1.1
  generalize Go.Sort.insertionSort (ltOf (cfV js)) (finsOf js l).toArray 0 n = D at *
  have hDl : D.toList.length = n := by simp [hPs, hsz]
  refine ⟨by simp [hDl], .inr ?_⟩
  rcases h.2 with ⟨h0, _⟩ | ⟨g', off', cap, cur, hv, hnc, hcm, hg, hc⟩
  · cases h0
  · cases hv
    refine ⟨g, off, c, Go.Sort.putCells fv off D cur, rfl, hnc, hcm, ?_, fun j u hu => ?_⟩
    · show (w.heap.modify g (Go.Sort.onCells (Go.Sort.putCells fv off D)))[g]? = _
      rw [Array.getElem?_modify, if_pos rfl, hg]
      rfl
    · have hj : j < n := by have := (List.getElem?_eq_some_iff.1 hu).1; simpa [hDl] using this
      have hj2 : j < (nv l).length := by simpa [nv, hln] using hj
      have := hc j _ (List.getElem?_eq_getElem hj2)
      have hlt := (Array.getElem?_eq_some_iff.1 this).1
      unfold Go.Sort.putCells
      rw [Array.getElem?_mapIdx, this]
      have hDj : j < D.size := by simpa using (show j < D.toList.length by omega)
      rw [List.getElem?_map, List.getElem?_eq_getElem (by simpa using hDj)] at hu
      simp only [Option.map_some, Option.some.injEq] at hu ⊢
      rw [if_pos ⟨by omega, by omega⟩, ← hu, Nat.add_sub_cancel_left, getElem!_pos D j hDj]
      simp
/-- The sort that 'again' asks for: by value, the greatest first. -/
theorem sortV_is {base : Nat} (X p : Nat) (w : World) {v : Value} {n : Nat} {l : List Nat} {Aj : Option Addr} {cj : Nat} (h : w.ownsRow base 3 1 v n (nv l)) (hl : ∀ x ∈ l, x < js.length) (hn : n < 20)
    (hX : w.cell? ⟨X, 0, none⟩ = some (.pointer (some ⟨p, 0, none⟩))) (hp : w.cell? ⟨p, 0, none⟩ = some (.slice Aj js.length cj)) (R : Row jc 8 w Aj js.length js) (gX : v.ownBlock ≠ some X) (gp : v.ownBlock ≠ some p) (gA : ∀ a, Aj = some a → v.ownBlock ≠ some a.block) :
    Calls Tryz.prog 47 #[v, .func (.func 112) #[] #[.pointer (some ⟨X, 0, none⟩)]] w fun e w' =>
      e = .returned (.tuple #[]) ∧ Has w' 3 1 v n (nv (sortV js l)) ∧ Keeps (fun b => v.ownBlock = some b) w w' := by
  have hln : l.length = n := by have := h.1; simpa [nv] using this
  rcases h.2 with ⟨rfl, rfl⟩ | ⟨g, cap, cur, rfl, hb, hg, hnc, hcm, hcs, htake⟩
  · have hl0 : l = [] := List.length_eq_zero_iff.1 hln
    subst hl0
    refine (sortf_of (by omega) (ins_none w none 0 _)).mono ?_
    rintro e w' ⟨rfl, rfl⟩
    have e : sortV js [] = [] := List.eq_nil_of_length_eq_zero (by have := (sortV_perm (js := js) [] (by simp)).length_eq; simpa using this)
    rw [e]
    exact ⟨rfl, Has.nil _ _ _, Keeps.refl _ _⟩
  · by_cases h0 : 0 < js.length
    · have hne : ∀ b, (fun b => (Value.slice (some ⟨g, 0, none⟩) n cap).ownBlock = some b) b ↔ b = g := fun b => ⟨fun e => (Option.some.inj e).symm, fun e => by rw [e]; rfl⟩
      have C := @ins_some js ⟨⟨0, h0⟩⟩ X p w g 0 cap n l Aj cj (Has.of_own h) hl hn hX hp R (fun e => gX (by rw [← e]; rfl)) (fun e => gp (by rw [← e]; rfl)) (fun a ha e => gA a ha (by rw [← e]; rfl))
      refine (sortf_of hn C).mono ?_
      rintro e w' ⟨rfl, h1, h2⟩
      refine ⟨rfl, ?_, ⟨h2.os, h2.tape, h2.output, h2.size, fun i hi hni => h2.block i hi (fun e => hni ((hne i).2 e))⟩⟩
      unfold sortV
      rw [dif_pos h0, nv_fins]
      exact h1
    · have hl0 : l = [] := by
        cases l with
        | nil => rfl
        | cons x l => exact absurd (hl x (by simp)) (by omega)
      subst hl0
      have hn0 : n = 0 := by simpa using hln.symm
      subst hn0
      refine (sortf_of (by omega) (ins_none w _ cap _)).mono ?_
      rintro e w' ⟨rfl, rfl⟩
      refine ⟨rfl, ?_, Keeps.refl _ _⟩
      have e : sortV js [] = [] := by unfold sortV; rw [dif_neg h0]
      rw [e]
      exact Has.of_own h
end
end Rob
end Go.Proofs.YtbgiegecfapmlaaGreatDoor
