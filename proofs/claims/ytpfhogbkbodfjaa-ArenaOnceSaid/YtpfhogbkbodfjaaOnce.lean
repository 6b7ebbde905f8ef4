/- Handles, each told once: what is in the places, in the row of those that are there, and in the map of those that were told; conditions: none. -/
import Derived.Test.YtpfhogbkbodfjaaArPlain
import Derived.Test.YtpfhogbkbodfjaaKeyH
namespace Go.Proofs.Ytpfhogbkbodfjaa
open Go.RowKit
set_option linter.unusedVariables false
set_option linter.unusedSimpArgs false
namespace Once
open KeyH
def hand (s g : Nat) (h1 : s ≤ 1000) (h2 : g ≤ 1000000) : Hd := ⟨(s, g), h1, h2⟩
/-- k calls were made: ps, fr: the places, those that are free; hs: the handles that are there; l: those that were told. -/
structure Good (room k : Nat) (ps : List (APlace Int)) (fr : List Nat) (hs : List Hd) (l : List (Hd × Value)) : Prop where
  len : ps.length ≤ room
  cnt : hs.length + fr.length = ps.length
  nd : fr.Nodup
  off : ∀ i ∈ fr, ∃ x, ps[i]? = some x ∧ x.on = false
  on : ∀ h ∈ hs, ∃ x, ps[h.1.1]? = some x ∧ x.on = true ∧ x.g = (h.1.2 : Int)
  sl : (hs.map fun h => h.1.1).Nodup
  gen : ∀ x ∈ ps, 1 ≤ x.g ∧ x.g ≤ (k : Int) + 1
  key : ∀ a : Hd, look l a ≠ none → ∃ x, ps[a.1.1]? = some x ∧ (a.1.2 : Int) ≤ x.g
  hk : hs.length ≤ k
theorem Good.start (room : Nat) : Good room 0 [] [] [] [] where
  len := Nat.zero_le _
  cnt := rfl
  nd := List.nodup_nil
  off i hi := nomatch hi
  on h hh := nomatch hh
  sl := List.nodup_nil
  gen x hx := nomatch hx
  key a ha := absurd rfl ha
  hk := Nat.zero_le _
variable {room k : Nat} {ps : List (APlace Int)} {fr : List Nat} {hs : List Hd} {l : List (Hd × Value)}
theorem Good.skip (h : Good room k ps fr hs l) : Good room (k + 1) ps fr hs l :=
  { h with gen := fun x hx => by have := h.gen x hx; omega, hk := Nat.le_succ_of_le h.hk }
theorem Good.slot_lt (h : Good room k ps fr hs l) {a : Hd} (ha : a ∈ hs) : a.1.1 < ps.length := by
  obtain ⟨x, hx, _⟩ := h.on a ha
  exact (List.getElem?_eq_some_iff.1 hx).1
theorem Good.new (h : Good room k ps [] hs l) (hr : ps.length < room) (v : Int) (b : Value) (h1 : ps.length ≤ 1000) :
    look l (hand ps.length 1 h1 (by decide)) = none ∧ Good room (k + 1) (ps ++ [⟨v, 1, true⟩]) [] (hs ++ [hand ps.length 1 h1 (by decide)]) (upd l (hand ps.length 1 h1 (by decide)) b) := by
  have hno : look l (hand ps.length 1 h1 (by decide)) = none := by
    apply Classical.byContradiction
    intro hc
    obtain ⟨x, hx, _⟩ := h.key _ hc
    have : ps.length < ps.length := (List.getElem?_eq_some_iff.1 hx).1
    omega
  refine ⟨hno, ?_⟩
  have hold : ∀ {i : Nat} {x : APlace Int}, ps[i]? = some x → (ps ++ [(⟨v, 1, true⟩ : APlace Int)])[i]? = some x := fun {i x} hx => by
    rw [List.getElem?_append_left (List.getElem?_eq_some_iff.1 hx).1]; exact hx
  have hlast : (ps ++ [(⟨v, 1, true⟩ : APlace Int)])[ps.length]? = some ⟨v, 1, true⟩ := by simp
  refine ⟨by simp; omega, by have := h.cnt; simp at this ⊢; omega, List.nodup_nil, (fun i hi => nomatch hi), ?_, ?_, ?_, ?_, by have := h.hk; simp; omega⟩
  · intro a ha
    rcases List.mem_append.1 ha with ha | ha
    · obtain ⟨x, hx, ho⟩ := h.on a ha
      exact ⟨x, hold hx, ho⟩
    · simp at ha; subst ha
      exact ⟨_, hlast, rfl, rfl⟩
  · rw [List.map_append]
    refine List.nodup_append.2 ⟨h.sl, by simp, ?_⟩
    intro a ha b hb hab
    simp at hb
    subst hab hb
    obtain ⟨c, hc, he⟩ := List.mem_map.1 ha
    have h2 := h.slot_lt hc
    have h3 : c.1.1 = ps.length := he
    omega
  · intro x hx
    rcases List.mem_append.1 hx with hx | hx
    · have := h.gen x hx; omega
    · simp at hx; subst hx; dsimp only; omega
  · intro a ha
    rw [look_upd] at ha
    by_cases hh : a = hand ps.length 1 h1 (by decide)
    · subst hh
      exact ⟨_, hlast, Int.le_refl _⟩
    · rw [if_neg hh] at ha
      obtain ⟨x, hx, hg⟩ := h.key a ha
      exact ⟨x, hold hx, hg⟩
theorem Good.reuse {j g : Nat} {x : APlace Int} (h : Good room k ps (fr ++ [j]) hs l) (hx : ps[j]? = some x) (hg : x.g = (g : Int)) (v : Int) (b : Value) (h1 : j ≤ 1000) (h2 : g + 1 ≤ 1000000) :
    look l (hand j (g + 1) h1 h2) = none ∧ Good room (k + 1) (ps.set j ⟨v, x.g + 1, true⟩) fr (hs ++ [hand j (g + 1) h1 h2]) (upd l (hand j (g + 1) h1 h2) b) := by
  have hjl := (List.getElem?_eq_some_iff.1 hx).1
  have hxo : x.on = false := by
    obtain ⟨y, hy, ho⟩ := h.off j (by simp)
    rw [hx] at hy
    cases hy
    exact ho
  have hno : look l (hand j (g + 1) h1 h2) = none := by
    apply Classical.byContradiction
    intro hc
    obtain ⟨y, hy, hle⟩ := h.key _ hc
    have hy' : ps[j]? = some y := hy
    rw [hx] at hy'
    cases hy'
    have hle' : ((g + 1 : Nat) : Int) ≤ x.g := hle
    omega
  refine ⟨hno, ?_⟩
  have hset : (ps.set j ⟨v, x.g + 1, true⟩)[j]? = some ⟨v, x.g + 1, true⟩ := List.getElem?_set_self hjl
  have hne : ∀ a ∈ hs, a.1.1 ≠ j := by
    intro a ha e
    obtain ⟨y, hy, ho, _⟩ := h.on a ha
    rw [e, hx] at hy
    cases hy
    rw [hxo] at ho
    cases ho
  have hndj : j ∉ fr := by
    have := (List.nodup_append.1 h.nd).2.2
    intro hj
    exact this j hj j (by simp) rfl
  refine ⟨by rw [List.length_set]; exact h.len, by have := h.cnt; rw [List.length_set]; simp at this ⊢; omega, (List.nodup_append.1 h.nd).1, ?_, ?_, ?_, ?_, ?_, by have := h.hk; simp; omega⟩
  · intro i hi
    obtain ⟨y, hy, ho⟩ := h.off i (List.mem_append_left _ hi)
    exact ⟨y, by rw [List.getElem?_set_ne (by rintro rfl; exact hndj hi)]; exact hy, ho⟩
  · intro a ha
    rcases List.mem_append.1 ha with ha | ha
    · obtain ⟨y, hy, ho⟩ := h.on a ha
      exact ⟨y, by rw [List.getElem?_set_ne (fun e => hne a ha e.symm)]; exact hy, ho⟩
    · simp at ha; subst ha
      exact ⟨_, hset, rfl, by show x.g + 1 = ((g + 1 : Nat) : Int); omega⟩
  · rw [List.map_append]
    refine List.nodup_append.2 ⟨h.sl, by simp, ?_⟩
    intro a ha b hb hab
    simp at hb
    subst hab hb
    obtain ⟨c, hc, he⟩ := List.mem_map.1 ha
    exact hne c hc he
  · intro y hy
    rcases List.mem_or_eq_of_mem_set hy with hy | rfl
    · have := h.gen y hy; omega
    · have := h.gen x (List.mem_of_getElem? hx); dsimp only; omega
  · intro a ha
    rw [look_upd] at ha
    by_cases hh : a = hand j (g + 1) h1 h2
    · subst hh
      exact ⟨_, hset, by show ((g + 1 : Nat) : Int) ≤ x.g + 1; omega⟩
    · rw [if_neg hh] at ha
      obtain ⟨y, hy, hle⟩ := h.key a ha
      by_cases haj : a.1.1 = j
      · rw [haj, hx] at hy
        cases hy
        exact ⟨_, by rw [haj]; exact hset, by dsimp only; omega⟩
      · exact ⟨y, by rw [List.getElem?_set_ne (fun e => haj e.symm)]; exact hy, hle⟩
theorem Good.freed {q : Nat} {a : Hd} {x : APlace Int} (h : Good room k ps fr hs l) (hq : hs[q]? = some a) (hx : ps[a.1.1]? = some x) :
    Good room (k + 1) (ps.set a.1.1 ⟨0, x.g, false⟩) (fr ++ [a.1.1]) (hs.eraseIdx q) l := by
  have hal := (List.getElem?_eq_some_iff.1 hx).1
  have ham := List.mem_of_getElem? hq
  have hql := (List.getElem?_eq_some_iff.1 hq).1
  have hxo : x.on = true := by
    obtain ⟨y, hy, ho, _⟩ := h.on a ham
    rw [hx] at hy
    cases hy
    exact ho
  have hset : (ps.set a.1.1 ⟨0, x.g, false⟩)[a.1.1]? = some ⟨0, x.g, false⟩ := List.getElem?_set_self hal
  have hnf : ∀ i ∈ fr, i ≠ a.1.1 := by
    rintro i hi rfl
    obtain ⟨y, hy, ho⟩ := h.off _ hi
    rw [hx] at hy
    cases hy
    rw [hxo] at ho
    cases ho
  have hne : ∀ b ∈ hs.eraseIdx q, b ∈ hs ∧ b.1.1 ≠ a.1.1 := by
    intro b hb
    obtain ⟨i, hiq, hi⟩ := List.mem_eraseIdx_iff_getElem?.1 hb
    refine ⟨List.mem_of_getElem? hi, fun e => hiq ?_⟩
    have hil := (List.getElem?_eq_some_iff.1 hi).1
    refine (List.getElem?_inj (i := i) (j := q) (by rw [List.length_map]; exact hil) h.sl).1 ?_
    rw [List.getElem?_map, List.getElem?_map, hi, hq]
    exact congrArg some e
  have hel : (hs.eraseIdx q).length + 1 = hs.length := by rw [List.length_eraseIdx, if_pos hql]; omega
  refine ⟨by rw [List.length_set]; exact h.len, by have := h.cnt; rw [List.length_set]; simp only [List.length_append, List.length_singleton]; omega, ?_, ?_, ?_, ?_, ?_, ?_, by have := h.hk; omega⟩
  · refine List.nodup_append.2 ⟨h.nd, by simp, ?_⟩
    intro i hi j hj hij
    simp at hj
    subst hij hj
    exact hnf _ hi rfl
  · intro i hi
    rcases List.mem_append.1 hi with hi | hi
    · obtain ⟨y, hy, ho⟩ := h.off i hi
      exact ⟨y, by rw [List.getElem?_set_ne (fun e => hnf i hi e.symm)]; exact hy, ho⟩
    · simp at hi; subst hi
      exact ⟨_, hset, rfl⟩
  · intro b hb
    obtain ⟨hbm, hbs⟩ := hne b hb
    obtain ⟨y, hy, ho⟩ := h.on b hbm
    exact ⟨y, by rw [List.getElem?_set_ne (fun e => hbs e.symm)]; exact hy, ho⟩
  · exact List.Sublist.nodup (List.Sublist.map _ (List.eraseIdx_sublist _ _)) h.sl
  · intro y hy
    rcases List.mem_or_eq_of_mem_set hy with hy | rfl
    · have := h.gen y hy; omega
    · have := h.gen x (List.mem_of_getElem? hx); dsimp only; omega
  · intro b hb
    obtain ⟨y, hy, hle⟩ := h.key b hb
    by_cases hbs : b.1.1 = a.1.1
    · rw [hbs, hx] at hy
      cases hy
      exact ⟨⟨0, x.g, false⟩, by rw [hbs]; exact hset, hle⟩
    · exact ⟨y, by rw [List.getElem?_set_ne (fun e => hbs e.symm)]; exact hy, hle⟩
end Once
end Go.Proofs.Ytpfhogbkbodfjaa
