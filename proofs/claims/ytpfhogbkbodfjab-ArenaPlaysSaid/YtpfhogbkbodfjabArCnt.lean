/- As many places are free as are not in use; conditions: none. -/
import Derived.Test.YtpfhogbkbodfjabArU
import Derived.Test.YtpfhogbkbodfjabArSAll
namespace Go.Proofs.Ytpfhogbkbodfjab
set_option linter.unusedVariables false
namespace ArU
open Ar
/-- The free places are those in which nothing is, each once. -/
structure Cnt (ps : List Pl) (fr : List Nat) : Prop where
  nd : fr.Nodup
  off : ∀ i ∈ fr, ∃ x, ps[i]? = some x ∧ x.on = false
  cnt : ps.countP (·.on) + fr.length = ps.length
theorem eq_nil_or_snoc' {α : Type} (l : List α) : l = [] ∨ ∃ l' x, l = l' ++ [x] := by
  rcases List.eq_nil_or_concat l with h | ⟨l', x, h⟩
  · exact .inl h
  · exact .inr ⟨l', x, by simpa using h⟩
theorem handles_len (ps : List Pl) : (ArS.handles ps).length = ps.countP (·.on) := by
  generalize hn : ps.length = n
  induction n generalizing ps with
  | zero => have := List.eq_nil_of_length_eq_zero hn; subst this; rfl
  | succ n ih =>
    rcases eq_nil_or_snoc' ps with rfl | ⟨ps0, x, rfl⟩
    · simp at hn
    · rw [ArS.handles_snoc, List.length_append, ih ps0 (by simpa using hn), List.countP_append]
      cases hx : x.on <;> simp [hx]
theorem cnt_set {ps : List Pl} {i : Nat} {x y : Pl} (hx : ps[i]? = some x) : (ps.set i y).countP (·.on) + (if x.on = true then 1 else 0) = ps.countP (·.on) + (if y.on = true then 1 else 0) := by
  obtain ⟨hi, he⟩ := List.getElem?_eq_some_iff.1 hx
  rw [List.countP_set hi, he]
  have hp : (if x.on = true then 1 else 0) ≤ ps.countP (·.on) := by
    split
    · exact List.countP_pos_iff.2 ⟨x, List.mem_of_getElem? hx, by assumption⟩
    · omega
  omega
theorem Cnt.put {room : Nat} {ps ps' : List Pl} {fr fr' : List Nat} {v : ByteArray} {s g e : Int} (P : Put room ps fr v s g e ps' fr') (C : Cnt ps fr) : Cnt ps' fr' := by
  rcases P with ⟨i, x, h1, h2, _, _, _, h3⟩ | ⟨h1, h2, h3, _, _, _, h4⟩ | ⟨h1, h2, h3, _, _, _, h4⟩
  · subst h1 h3
    obtain ⟨x', hx', ho⟩ := C.off i (by simp)
    rw [h2] at hx'
    cases hx'
    have hc := cnt_set (y := ⟨v, x.g + 1, true⟩) h2
    have hnd := C.nd
    rw [List.nodup_append] at hnd
    have hl := C.cnt
    refine ⟨hnd.1, fun j hj => ?_, ?_⟩
    · obtain ⟨z, hz, hzo⟩ := C.off j (by simp [hj])
      have hne : i ≠ j := fun e => hnd.2.2 j hj i (by simp) e.symm
      exact ⟨z, by rw [List.getElem?_set_ne hne]; exact hz, hzo⟩
    · rw [List.length_set]
      simp [ho] at hc hl
      omega
  · subst h1 h2 h4
    exact C
  · subst h1 h2 h4
    have hl := C.cnt
    refine ⟨by simp, by simp, ?_⟩
    simp at hl ⊢
    omega
theorem Cnt.setp {room : Nat} {ps : List Pl} {fr : List Nat} (C : Cnt ps fr) (s g : Int) (v : ByteArray) : Cnt (setp room ps s g v) fr := by
  unfold ArU.setp
  by_cases hc : code room ps s g = 0
  · obtain ⟨i, x, rfl, hi, hx, ho, rfl⟩ := ArS.code_ok hc
    rw [if_pos hc, Int.toNat_natCast, hx]
    have hc := cnt_set (y := ⟨v, x.g, x.on⟩) hx
    refine ⟨C.nd, fun j hj => ?_, ?_⟩
    · obtain ⟨z, hz, hzo⟩ := C.off j hj
      have hne : i ≠ j := fun e => by subst e; rw [hx] at hz; cases hz; rw [ho] at hzo; cases hzo
      exact ⟨z, by rw [List.getElem?_set_ne hne]; exact hz, hzo⟩
    · have hl := C.cnt
      dsimp only at hc ⊢
      rw [List.length_set]
      omega
  · rw [if_neg hc]; exact C
theorem Cnt.freep {room : Nat} {ps : List Pl} {fr : List Nat} (C : Cnt ps fr) (s g : Int) : Cnt (freep room ps s g) (freef room ps fr s g) := by
  unfold ArU.freep freef
  by_cases hc : code room ps s g = 0
  · obtain ⟨i, x, rfl, hi, hx, ho, rfl⟩ := ArS.code_ok hc
    rw [if_pos hc, if_pos hc, Int.toNat_natCast, hx]
    have hc := cnt_set (y := ⟨⟨#[]⟩, x.g, false⟩) hx
    have hni : i ∉ fr := fun h => by
      obtain ⟨z, hz, hzo⟩ := C.off i h
      rw [hx] at hz; cases hz; rw [ho] at hzo; cases hzo
    have hil := (List.getElem?_eq_some_iff.1 hx).1
    refine ⟨?_, fun j hj => ?_, ?_⟩
    · rw [List.nodup_append]
      exact ⟨C.nd, by simp, fun a ha b hb e => by simp at hb; subst hb; subst e; exact hni ha⟩
    · rcases List.mem_append.1 hj with h | h
      · obtain ⟨z, hz, hzo⟩ := C.off j h
        have hne : i ≠ j := fun e => hni (e ▸ h)
        exact ⟨z, by rw [List.getElem?_set_ne hne]; exact hz, hzo⟩
      · simp at h; subst h
        exact ⟨_, List.getElem?_set_self hil, rfl⟩
    · have hl := C.cnt
      rw [List.length_set]
      simp [ho] at hc ⊢
      omega
  · rw [if_neg hc, if_neg hc]; exact C
end ArU
end Go.Proofs.Ytpfhogbkbodfjab
