/- Places that are used again: what is in them; conditions: none. -/
import Derived.Test.YtpfhogbkbodfjabFlat
namespace Go.Proofs.Ytpfhogbkbodfjab
open Go.RowKit
set_option linter.unusedVariables false
set_option linter.unusedSimpArgs false
/-- A place: what it holds, how often it was used, whether something is in it. -/
structure APlace (α : Type) where
  v : α
  g : Int
  on : Bool
namespace Ar
/-- What 'find' answers. -/
def code {α : Type} (room : Nat) (ps : List (APlace α)) (slot gen : Int) : Int :=
  if slot < 0 ∨ (room : Int) ≤ slot then 1 else match ps[slot.toNat]? with
    | some x => if x.on = true ∧ x.g = gen then 0 else 7
    | none => 7
theorem own_addr {w : World} {base n c sz : Nat} {A : Option Addr} {e : TypeId} {xs : List Value} (h : w.ownsRow base e sz (.slice A (n + 1) c) (n + 1) xs) : ∃ g, A = some ⟨g, 0, none⟩ := by
  rcases h.2 with ⟨_, h0⟩ | ⟨g, cap, cur, hv, _⟩
  · omega
  · injection hv with hA
    exact ⟨g, hA⟩
/-- A slice of the call's own, one element shorter. -/
theorem own_shrink {w : World} {base g n c : Nat} {e : TypeId} {xs : List Value} {y : Value} (h : w.ownsRow base e 1 (.slice (some ⟨g, 0, none⟩) (n + 1) c) (n + 1) (xs ++ [y])) : w.ownsRow base e 1 (.slice (some ⟨g, 0, none⟩) n c) n xs := by
  have hl := h.1
  refine ⟨by simp at hl; omega, ?_⟩
  rcases h.2 with ⟨_, h0⟩ | ⟨g', cap, cur, hv, hb, hg, hnc, hcm, hcs, htake⟩
  · omega
  · injection hv with hA _ hc
    cases hA
    subst hc
    refine .inr ⟨g, c, cur, rfl, hb, hg, by omega, hcm, hcs, ?_⟩
    have h2 : (cur.toList.take ((n + 1) * 1)).take (n * 1) = cur.toList.take (n * 1) := by rw [List.take_take, show min (n * 1) ((n + 1) * 1) = n * 1 by omega]
    rw [← h2, htake]
    have hlx : n = xs.length := by simp at hl; omega
    rw [Nat.mul_one, hlx, List.take_left]
/-- .. one of its elements' cells written. -/
theorem own_put {α : Type} {cf : α → List Value} {sz : Nat} (hcf : ∀ x, (cf x).length = sz) (hsz : 0 < sz) {w : World} {base : Nat} {e : TypeId} {n g c : Nat} {xs : List α} (h : w.ownsRow base e sz (.slice (some ⟨g, 0, none⟩) n c) n (xs.flatMap cf))
    {i j : Nat} {x x' : α} {u : Value} (hx : xs[i]? = some x) (hj : j < sz) (hset : cf x' = (cf x).set j u) :
    (w.setCell ⟨g, i * sz + j, none⟩ u).ownsRow base e sz (.slice (some ⟨g, 0, none⟩) n c) n ((xs.set i x').flatMap cf) := by
  have key : (xs.set i x').flatMap cf = (xs.flatMap cf).set (i * sz + j) u := by
    apply List.ext_getElem?
    intro m
    rw [flat_set hcf hsz]
    by_cases hm : m < (xs.flatMap cf).length
    · rw [setAll_get _ _ _ m hm, hcf x']
      by_cases h1 : i * sz ≤ m ∧ m < i * sz + sz
      · rw [if_pos h1, hset]
        have hm2 : m = i * sz + (m - i * sz) := by omega
        have hfl := flat_get hcf xs i (m - i * sz) (by omega)
        rw [hx, ← hm2] at hfl
        by_cases hmj : m = i * sz + j
        · subst hmj
          rw [Nat.add_sub_cancel_left, List.getElem?_set_self (by rw [hcf]; exact hj), List.getElem?_set_self hm]
        · rw [List.getElem?_set_ne (by omega), List.getElem?_set_ne (fun e => hmj e.symm), hfl]
          rfl
      · rw [if_neg h1, List.getElem?_set_ne (by omega)]
    · rw [List.getElem?_eq_none (by rw [setAll_length]; omega), List.getElem?_eq_none (by rw [List.length_set]; omega)]
  rw [key]
  exact (h.stored _ _).1
end Ar
end Go.Proofs.Ytpfhogbkbodfjab
