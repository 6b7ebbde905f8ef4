/- slices.SortStableFunc at edf.Left, fewer than twenty of them; conditions: none. -/
import Derived.Test.YtbgiegecfapmlaaGreatDoorEdfMay
import Derived.Test.YtbgiegecfapmlaaGreatDoorShelfB
import Derived.Test.YtbgiegecfapmlaaGreatDoorShelf
import Derived.Test.YtbgiegecfapmlaaGreatDoorFlat
import Derived.Sort.LotA
namespace Go.Proofs.YtbgiegecfapmlaaGreatDoor
open Go.RowKit
set_option linter.unusedVariables false
set_option linter.unusedSimpArgs false
theorem keeps_sort {α : Type} [Inhabited α] (enc : α → List Value) (k : Nat) (w : World) (blk off m : Nat) (dk : Array α) (os : Array Obj) : Keeps (· = blk) w (sortWorldK enc k w blk off m dk os) := by
  refine ⟨rfl, rfl, rfl, size_sortWorldK_c enc k w blk off m dk os, fun i hi hne => ?_⟩
  show ((w.heap.modify blk _) ++ os)[i]? = w.heap[i]?
  rw [Array.getElem?_append_left (by simpa using hi), Array.getElem?_modify, if_neg (fun e => hne e.symm)]
theorem Has.icy' {w : World} {e : TypeId} {size n g off c : Nat} {cs : List Value} (h : Has w e size (.slice (some ⟨g, off, none⟩) n c) n cs) (i : Nat) : w.frozen? ⟨g, i, none⟩ = false := by
  rcases h.2 with ⟨h0, _⟩ | ⟨g', off', cap, cur, hv, hnc, hcm, hg, hc⟩
  · cases h0
  · cases hv
    simp [World.frozen?, hg]
namespace Edf
theorem cmp_lays (x y : Lf) (W : World) : Calls Tryz.prog 167 #[lv x, lv y] W fun e w' =>
    e = .returned (.int .i64 (Lib.compareInt x.d y.d)) ∧ w' = Go.Sort.grow W #[.cells #[.int .i64 x.d, .int .i64 x.n] 207, .cells #[.int .i64 y.d, .int .i64 y.n] 207] := by
  have X := (Blk.new W 207 (lc x)).alloc (.cells #[.int .i64 y.d, .int .i64 y.n] 207)
  have Y := Blk.new (W.alloc (.cells #[.int .i64 x.d, .int .i64 x.n] 207)) 207 (lc y)
  have x0 := X.cellAt (i := 0) rfl
  have y0 := Y.cellAt (i := 0) rfl
  unfold lc at x0 y0
  unfold lv
  clear X Y
  go_enter Tryz.func167, Tryz.ntmps167
  go_wp2_with (go_at_call 49; refine (Tryz.cmp_Compare_int _ _ _).mono ?_; rintro e w2 ⟨rfl, rfl⟩)
  go_ret
  exact ⟨rfl, by rw [Go.Sort.alloc_eq_grow, Go.Sort.alloc_eq_grow, Go.Sort.grow_grow]; rfl⟩
instance : Inhabited Lf := ⟨⟨0, 0⟩⟩
def cfL (x y : Lf) : Int := Lib.compareInt x.d y.d
theorem lt_is (x y : Lf) : ltOf cfL x y = decide (x.d < y.d) := by
  unfold ltOf cfL Lib.compareInt
  by_cases h1 : x.d < y.d
  · simp [h1]
  · by_cases h2 : y.d < x.d
    · simp [h1, h2]
    · simp [h1, h2]
theorem swo : Go.Sort.SWO (ltOf cfL) := by
  refine ⟨fun x => ?_, fun x y z => ?_, fun x y z => ?_⟩
  · rw [lt_is]; simp
  · rw [lt_is, lt_is, lt_is]; simp; omega
  · rw [lt_is, lt_is, lt_is]; simp; omega
theorem one_cell : ∀ x : Lf, ∀ v ∈ lc x, v.oneCell' = true := by
  intro x v hv
  simp [lc] at hv
  rcases hv with rfl | rfl <;> rfl
theorem ins_is (blk off cap : Nat) (d : Array Lf) (w : World) (hH : Go.Sort.HoldsK lc 2 w blk off d) (hblk : blk < w.heap.size) (hsz : d.size < 4611686018427387904) :
    Calls Tryz.prog 198 #[.slice (some ⟨blk, off, none⟩) d.size cap, .int .i64 0, .int .i64 (d.size : Int), .func (.func 167) #[] #[]] w fun e w' =>
      e = .returned (.tuple #[]) ∧ ∃ n os, w' = sortWorldK lc 2 w blk off n (Go.Sort.insertionSort (ltOf cfL) d 0 d.size) os := by
  have := AnyQ.insertionSortCmpFunc Tryz.laysInsL 2 Tryz.isAgg207 Tryz.sizeOf207 lc lc_len one_cell cfL 167 #[] blk off cap 0 d.size d w
    (enters_of Tryz.func167 (by kernel_rfl) rfl) (fun m os dk _ x y => (cmp_lays x y _).mono (by
      rintro e w' ⟨rfl, rfl⟩
      exact ⟨rfl, 0, _, rfl⟩)) hH hblk (Nat.zero_le _) (Nat.le_refl _) hsz
  exact this
set_option maxRecDepth 100000 in
theorem stable_is (blk off cap : Nat) (d : Array Lf) (w : World) (hH : Go.Sort.HoldsK lc 2 w blk off d) (hblk : blk < w.heap.size) (hsz : d.size < 20) :
    Calls Tryz.prog 186 #[.slice (some ⟨blk, off, none⟩) d.size cap, .int .i64 (d.size : Int), .func (.func 167) #[] #[]] w fun e w' =>
      e = .returned (.tuple #[]) ∧ ∃ n os, w' = sortWorldK lc 2 w blk off n (Go.Sort.insertionSort (ltOf cfL) d 0 d.size) os := by
  have C := ins_is blk off cap d w hH hblk (by omega)
  generalize Go.Sort.insertionSort (ltOf cfL) d 0 d.size = D at C ⊢
  have HC := Lib.hid C
  have n1 : ¬ (20 : Int) ≤ (d.size : Int) := by omega
  have n2 : ¬ (20 : Int) < (d.size : Int) := by omega
  clear C hH hblk hsz
  generalize d.size = n at *
  go_enter Tryz.func186, Tryz.ntmps186
  go_wp2_with fail
  go_loopw [7, 8] (fun a b wr => a = .int .i64 0 ∧ b = .int .i64 20 ∧ wr = w) (fun _ _ _ => 0)
  case atStart => exact ⟨rfl, rfl, rfl⟩
  case round =>
    obtain ⟨rfl, rfl, rfl⟩ := hrel
    go_wp2_with fail
    refine HC.out.mono ?_
    rintro e w2 ⟨rfl, hw⟩
    have HW := Lib.hid hw
    clear hw
    go_wp2_with fail
    go_loopw [6] (fun a wx => a = .int .i64 20 ∧ wx = w2) (fun _ _ => 0)
    case atStart => exact ⟨rfl, rfl⟩
    case round =>
      obtain ⟨rfl, rfl⟩ := hrel
      go_wp2_with fail
      go_end0
      exact ⟨rfl, HW.out⟩
theorem sort_is (blk off cap : Nat) (d : Array Lf) (w : World) (hH : Go.Sort.HoldsK lc 2 w blk off d) (hblk : blk < w.heap.size) (hsz : d.size < 20) :
    Calls Tryz.prog 166 #[.slice (some ⟨blk, off, none⟩) d.size cap, .func (.func 167) #[] #[]] w fun e w' =>
      e = .returned (.tuple #[]) ∧ ∃ n os, w' = sortWorldK lc 2 w blk off n (Go.Sort.insertionSort (ltOf cfL) d 0 d.size) os := by
  have C := stable_is blk off cap d w hH hblk hsz
  generalize Go.Sort.insertionSort (ltOf cfL) d 0 d.size = D at C ⊢
  clear hH hblk hsz
  generalize d.size = n at *
  go_enter Tryz.func166, Tryz.ntmps166
  go_wp2_with fail
  refine C.mono ?_
  rintro e w2 ⟨rfl, hw⟩
  have HW := Lib.hid hw
  clear hw
  go_wp2_with fail
  go_end0
  exact ⟨rfl, HW.out⟩
theorem holds_of {w : World} {g off n c : Nat} {ls : List Lf} (h : Has w 207 2 (.slice (some ⟨g, off, none⟩) n c) n (ls.flatMap lc)) (hn : 0 < n) : Go.Sort.HoldsK lc 2 w g off ls.toArray ∧ g < w.heap.size ∧ ls.length = n := by
  have hl : ls.length = n := by have := h.1; rw [flat_length lc_len] at this; omega
  obtain ⟨g', off', hA, hc⟩ := h.at_ hn
  cases hA
  refine ⟨fun j hj => ?_, ?_, hl⟩
  · have hj2 : j < ls.toArray.size * 2 := by simpa using hj
    have hj3 : j < ls.length * 2 := by simpa using hj2
    refine ⟨?_, h.icy' _⟩
    apply hc
    rw [show id (Go.Sort.flatK lc 2 ls.toArray)[j]! = (Go.Sort.flatK lc 2 ls.toArray)[j]! from rfl, Go.Sort.get_flatK _ _ _ _ hj2]
    have hd : j / 2 < ls.length := by omega
    have e1 : ls.toArray[j / 2]! = ls[j / 2]'hd := by rw [getElem!_pos _ _ (by simpa using hd)]; simp
    rw [e1]
    have := flat_get lc_len ls (j / 2) (j % 2) (by omega)
    rw [show j / 2 * 2 + j % 2 = j by omega, List.getElem?_eq_getElem hd] at this
    rw [this]
    show (lc ls[j / 2])[j % 2]? = some (lc ls[j / 2])[j % 2]!
    rw [getElem!_pos _ _ (by rw [lc_len]; omega), List.getElem?_eq_getElem (by rw [lc_len]; omega)]
  · have h0 : 0 < ls.length := by omega
    obtain ⟨x, hx⟩ : ∃ x, ls[0]? = some x := ⟨ls[0], List.getElem?_eq_getElem h0⟩
    have := hc (0 * 2 + 0) _ (flat_at lc_len hx (j := 0) rfl)
    exact World.block_lt_of_cell? w _ this
theorem sorted_of {l : List Lf} (h : ∀ i j, 0 ≤ i → i < j → j < l.length → ltOf cfL l.toArray[j]! l.toArray[i]! = false) : Sorted l := by
  induction l with
  | nil => trivial
  | cons x l ih =>
    refine ⟨fun y hy => ?_, ih fun i j h0 h1 h2 => ?_⟩
    · obtain ⟨k, hk, rfl⟩ := List.getElem_of_mem hy
      have := h 0 (k + 1) (Nat.le_refl _) (by omega) (by simpa using hk)
      rw [lt_is] at this
      rw [getElem!_pos _ _ (by simpa using hk), getElem!_pos _ _ (by simp)] at this
      simpa using this
    · have := h (i + 1) (j + 1) (by omega) (by omega) (by simpa using h2)
      rw [getElem!_pos _ _ (by simpa using h2), getElem!_pos _ _ (by simp; omega)] at this
      rw [getElem!_pos _ _ (by simpa using h2), getElem!_pos _ _ (by simp; omega)]
      simpa using this
/-- The sort: the same ones, in the order of their deadlines; nothing else turns. -/
theorem sorted_is {w : World} {g off n c : Nat} {ls : List Lf} (h : Has w 207 2 (.slice (some ⟨g, off, none⟩) n c) n (ls.flatMap lc)) (hn : 0 < n) (hn2 : n < 20) :
    Calls Tryz.prog 166 #[.slice (some ⟨g, off, none⟩) n c, .func (.func 167) #[] #[]] w fun e w' =>
      e = .returned (.tuple #[]) ∧ ∃ l : List Lf, l.Perm ls ∧ Sorted l ∧ Row lc 2 w' (some ⟨g, off, none⟩) n l ∧ Keeps (· = g) w w' := by
  obtain ⟨hH, hb, hl⟩ := holds_of h hn
  have C := sort_is g off c ls.toArray w hH hb (by simp; omega)
  have hsz : ls.toArray.size = n := by simpa using hl
  rw [hsz] at C
  obtain ⟨hP, hS⟩ := Go.Sort.insertionSort_holds swo ls.toArray 0 n (Nat.zero_le _) (by omega)
  generalize Go.Sort.insertionSort (ltOf cfL) ls.toArray 0 n = D at C hP hS
  have hD : D.size = n := by rw [hP.1, hsz]
  refine C.mono ?_
  rintro e w' ⟨rfl, m, os, rfl⟩
  refine ⟨rfl, D.toList, ?_, ?_, ?_, keeps_sort _ _ _ _ _ _ _ _⟩
  · have := hP.2.2
    rw [show D.extract 0 n = D by rw [← hD]; simp, show ls.toArray.extract 0 n = ls.toArray by rw [← hsz]; simp] at this
    simpa using this
  · apply sorted_of
    intro i j h0 h1 h2
    exact hS i j h0 h1 (by have : D.toList.length = n := by simpa using hD
                           omega)
  · have hK := holdsK_sortWorldK_c lc 2 w g off ls.toArray D m os hH hb (by rw [hD, hsz])
    refine ⟨by simpa using hD, ?_, fun _ => ⟨g, off, rfl, ?_, fun i x hx j v hv => ?_⟩⟩
    · unfold maxLen; omega
    · exact Nat.lt_of_lt_of_le hb (size_sortWorldK_c lc 2 w g off m D os)
    · have hi : i < D.size := by have := (List.getElem?_eq_some_iff.1 hx).1; simpa using this
      have hj : j < 2 := by have := (List.getElem?_eq_some_iff.1 hv).1; rwa [lc_len] at this
      have := (hK.cell hi hj).1
      rw [getElem!_pos D i hi] at this
      have hx2 : D[i] = x := by
        have := (List.getElem?_eq_some_iff.1 hx).2
        simpa using this
      rw [hx2, getElem!_pos _ _ (by rw [lc_len]; exact hj)] at this
      rw [this]
      exact congrArg some (List.getElem?_eq_some_iff.1 hv).2
end Edf
end Go.Proofs.YtbgiegecfapmlaaGreatDoor
