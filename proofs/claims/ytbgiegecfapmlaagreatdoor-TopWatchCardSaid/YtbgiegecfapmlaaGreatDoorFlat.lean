/- Lists of elements laid out as cells, a fixed number of cells each; conditions: none. -/
import Derived.Test.YtbgiegecfapmlaaGreatDoorSlice
namespace Go.Proofs.YtbgiegecfapmlaaGreatDoor
open Go.RowKit
set_option linter.unusedVariables false
set_option linter.unusedSimpArgs false
section
variable {α : Type} {cf : α → List Value} {sz : Nat}
theorem flat_length (h : ∀ x, (cf x).length = sz) (xs : List α) : (xs.flatMap cf).length = xs.length * sz := by
  induction xs with
  | nil => simp
  | cons x xs ih => rw [List.flatMap_cons, List.length_append, ih, h, List.length_cons, Nat.succ_mul]; omega
theorem flat_get (h : ∀ x, (cf x).length = sz) (xs : List α) : ∀ (i j : Nat), j < sz → (xs.flatMap cf)[i * sz + j]? = (xs[i]?).bind fun x => (cf x)[j]? := by
  induction xs with
  | nil => intro i j _; simp
  | cons x xs ih =>
    intro i j hj
    rw [List.flatMap_cons]
    cases i with
    | zero => rw [Nat.zero_mul, Nat.zero_add, List.getElem?_append_left (by rw [h]; exact hj)]; simp
    | succ i =>
      rw [List.getElem?_append_right (by rw [h, Nat.succ_mul]; omega), h, show (i + 1) * sz + j - sz = i * sz + j from by rw [Nat.succ_mul]; omega, ih i j hj]
      simp
theorem flat_at (h : ∀ x, (cf x).length = sz) {xs : List α} {i : Nat} {x : α} (hx : xs[i]? = some x) {j : Nat} {v : Value} (hv : (cf x)[j]? = some v) : (xs.flatMap cf)[i * sz + j]? = some v := by
  have hj : j < sz := by rw [← h x]; exact (List.getElem?_eq_some_iff.1 hv).1
  rw [flat_get h xs i j hj, hx]
  exact hv
def setAll (cs : List Value) (k : Nat) : List Value → List Value
  | [] => cs
  | v :: vs => setAll (cs.set k v) (k + 1) vs
theorem setAll_length (vs : List Value) : ∀ (cs : List Value) (k : Nat), (setAll cs k vs).length = cs.length := by
  induction vs with
  | nil => intro cs k; rfl
  | cons v vs ih => intro cs k; simp only [setAll]; rw [ih, List.length_set]
theorem setAll_get (vs : List Value) : ∀ (cs : List Value) (k m : Nat), m < cs.length → (setAll cs k vs)[m]? = if k ≤ m ∧ m < k + vs.length then vs[m - k]? else cs[m]? := by
  induction vs with
  | nil => intro cs k m hm; rw [if_neg (by intro hc; simp at hc; omega)]; try rfl
  | cons v vs ih =>
    intro cs k m hm
    simp only [setAll]
    rw [ih _ _ m (by rw [List.length_set]; exact hm), List.length_cons]
    by_cases h1 : k + 1 ≤ m ∧ m < k + 1 + vs.length
    · rw [if_pos h1, if_pos (by omega), show m - k = (m - (k + 1)) + 1 from by omega, List.getElem?_cons_succ]
    · rw [if_neg h1]
      by_cases h2 : m = k
      · subst h2
        rw [if_pos (by omega), Nat.sub_self, List.getElem?_cons_zero, List.getElem?_set_self hm]
      · rw [if_neg (by omega), List.getElem?_set_ne (fun e => h2 e.symm)]
theorem flat_set (h : ∀ x, (cf x).length = sz) (hsz : 0 < sz) (xs : List α) (i : Nat) (x : α) : (xs.set i x).flatMap cf = setAll (xs.flatMap cf) (i * sz) (cf x) := by
  apply List.ext_getElem?
  intro m
  have hl : ((xs.set i x).flatMap cf).length = xs.length * sz := by rw [flat_length h, List.length_set]
  by_cases hm : m < xs.length * sz
  · have hmm : m = m / sz * sz + m % sz := by rw [Nat.mul_comm]; exact (Nat.div_add_mod m sz).symm
    have hj : m % sz < sz := Nat.mod_lt _ hsz
    rw [setAll_get _ _ _ m (by rw [flat_length h]; exact hm), h x]
    have e1 : ((xs.set i x).flatMap cf)[m]? = ((xs.set i x)[m / sz]?).bind fun y => (cf y)[m % sz]? := by
      conv => lhs; rw [hmm]
      exact flat_get h _ _ _ hj
    have e2 : (xs.flatMap cf)[m]? = (xs[m / sz]?).bind fun y => (cf y)[m % sz]? := by
      conv => lhs; rw [hmm]
      exact flat_get h _ _ _ hj
    have hq : m / sz < xs.length := Nat.div_lt_of_lt_mul (by rw [Nat.mul_comm]; exact hm)
    rw [e1, e2]
    by_cases hi : m / sz = i
    · have h1 : i * sz ≤ m ∧ m < i * sz + sz := by rw [← hi]; omega
      rw [if_pos h1, hi, List.getElem?_set_self (by omega)]
      have : m - i * sz = m % sz := by rw [← hi]; omega
      rw [this]; rfl
    · have h1 : ¬ (i * sz ≤ m ∧ m < i * sz + sz) := by
        intro hc
        apply hi
        have a1 : i ≤ m / sz := (Nat.le_div_iff_mul_le hsz).2 hc.1
        have a2 : m / sz < i + 1 := (Nat.div_lt_iff_lt_mul hsz).2 (by rw [Nat.succ_mul]; exact hc.2)
        omega
      rw [if_neg h1, List.getElem?_set_ne (fun e => hi e.symm)]
  · rw [List.getElem?_eq_none (by rw [hl]; omega), List.getElem?_eq_none (by rw [setAll_length, flat_length h]; omega)]
theorem flat_replicate (n : Nat) (x : α) : (List.replicate n x).flatMap cf = (List.replicate n (cf x)).flatten := by
  induction n with
  | zero => rfl
  | succ n ih => rw [List.replicate_succ, List.replicate_succ, List.flatMap_cons, ih, List.flatten_cons]
/-- What make leaves: n times the zero element's cells. -/
theorem made_cells (h : ∀ x, (cf x).length = sz) (hsz : 0 < sz) (x : α) (n : Nat) : madeCells (cf x).toArray (n * sz) = ((List.replicate n x).flatMap cf).toArray := by
  apply Array.toList_inj.1
  apply List.ext_getElem?
  intro m
  have hl : ((List.replicate n x).flatMap cf).length = n * sz := by rw [flat_length h, List.length_replicate]
  by_cases hm : m < n * sz
  · have hmm : m = m / sz * sz + m % sz := by rw [Nat.mul_comm]; exact (Nat.div_add_mod m sz).symm
    have hj : m % sz < sz := Nat.mod_lt _ hsz
    have hq : m / sz < n := Nat.div_lt_of_lt_mul (by rw [Nat.mul_comm]; exact hm)
    have e1 : ((List.replicate n x).flatMap cf)[m]? = (cf x)[m % sz]? := by
      conv => lhs; rw [hmm]
      rw [flat_get h _ _ _ hj, List.getElem?_replicate, if_pos hq]; rfl
    have hjx : m % sz < (cf x).length := by rw [h]; exact hj
    simp only [madeCells, Array.toList_map, Array.toList_range, List.getElem?_map, List.getElem?_range hm, List.size_toArray, h]
    rw [e1]
    simp [hjx]
  · rw [List.getElem?_eq_none (by simp [madeCells]; omega), List.getElem?_eq_none (by simpa [hl] using hm)]
end
end Go.Proofs.YtbgiegecfapmlaaGreatDoor
