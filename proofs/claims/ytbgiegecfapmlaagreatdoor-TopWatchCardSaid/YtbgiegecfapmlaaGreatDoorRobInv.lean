/- Firm jobs alone are never refused by package robust: each is met, aborted, or shed; conditions: jobs as chapter 8 asks. -/
import Derived.Test.YtbgiegecfapmlaaGreatDoorRobRun
namespace Go.Proofs.YtbgiegecfapmlaaGreatDoor
set_option linter.unusedVariables false
namespace Rob
open Edf
theorem getD_set_int (l : List Int) (i j : Nat) (v : Int) (hi : i < l.length) : (l.set i v).getD j 0 = if j = i then v else l.getD j 0 := by
  simp only [List.getD_eq_getElem?_getD, List.getElem?_set]
  by_cases h : j = i
  · subst h; simp [hi]
  · rw [if_neg (fun e => h e.symm), if_neg h]
theorem getD_set_pair (l : List (Int × Int)) (i j : Nat) (v : Int × Int) (hi : i < l.length) : (l.set i v).getD j (0, 0) = if j = i then v else l.getD j (0, 0) := by
  simp only [List.getD_eq_getElem?_getD, List.getElem?_set]
  by_cases h : j = i
  · subst h; simp [hi]
  · rw [if_neg (fun e => h e.symm), if_neg h]
theorem isAt_setI (s : St) (i j : Nat) (k : Int) (hi : i < s.is.length) : isAt (setI s i k) j = if j = i then k else isAt s j := getD_set_int _ _ _ _ hi
theorem kdAt_say (s : St) (i j : Nat) (k t : Int) (hi : i < s.fs.length) : kdAt (say s i k t) j = if j = i then k else kdAt s j := by
  unfold kdAt say
  simp only
  rw [getD_set_pair _ _ _ _ hi]
  split <;> rfl
theorem ranAt_work (s : St) (i j : Nat) (hi : i < s.ran.length) : ranAt (work1 s i) j = if j = i then ranAt s i + 1 else ranAt s j := getD_set_int _ _ _ _ hi
/-- As long as the jobs are many. -/
structure Len (n : Nat) (s : St) : Prop where
  is : s.is.length = n
  ran : s.ran.length = n
  fs : s.fs.length = n
theorem Len.setI {n : Nat} {s : St} (h : Len n s) (i : Nat) (k : Int) : Len n (setI s i k) := ⟨by simp [Rob.setI, h.is], h.ran, h.fs⟩
theorem Len.say {n : Nat} {s : St} (h : Len n s) (i : Nat) (k t : Int) : Len n (say s i k t) := ⟨h.is, h.ran, by simp [Rob.say, h.fs]⟩
section
variable {js : List J}
theorem opn_eq {s : St} {i : Nat} {k : Int} : opn s i k = true ↔ isAt s i = k ∧ kdAt s i = 0 := by unfold opn; simp
/-- Fewer that are taken, each of which needs no more: they fit as well. -/
theorem Fit.mono {s s' : St} {t : Int} (h : Fit js s t) (hn : ∀ i, i < js.length → opn s i 1 = true → 0 ≤ need js s i)
    (hs : ∀ i, i < js.length → opn s' i 1 = true → opn s i 1 = true ∧ need js s' i ≤ need js s i) : Fit js s' t := by
  intro i hi ho
  obtain ⟨h1, _⟩ := hs i hi ho
  refine Int.le_trans (sumTo_le _ _ _ fun j hj => ?_) (h i hi h1)
  unfold term
  by_cases hc : opn s' j 1 = true ∧ dlAt js j ≤ dlAt js i
  · obtain ⟨h2, h3⟩ := hs j hj hc.1
    rw [if_pos hc, if_pos ⟨h2, hc.2⟩]
    exact h3
  · rw [if_neg hc]
    split
    · rename_i h4; exact hn j hj h4.1
    · exact Int.le_refl _
/-- All jobs are as asked, and firm. -/
structure Firm (js : List J) : Prop where
  ok : ∀ j ∈ js, j.Ok
  firm : ∀ j ∈ js, j.hard = false
theorem Firm.at_ (h : Firm js) {i : Nat} (hi : i < js.length) : relAt js i < dlAt js i ∧ 0 ≤ relAt js i ∧ 1 ≤ budAt js i ∧ 1 ≤ workAt js i ∧ workAt js i ≤ chAt js i ∧ hardAt js i = false := by
  have hm := List.getElem_mem hi
  have ho := h.ok _ hm
  have hw := J.work_le ho
  unfold relAt dlAt budAt workAt chAt hardAt
  rw [List.getElem?_eq_getElem hi]
  exact ⟨ho.dl, ho.rel, ho.bud.1, hw.1, hw.2, h.firm _ hm⟩
/-- What holds at tick t, when the jobs ahead of m have come that come at t. -/
structure Inv (js : List J) (t : Int) (m : Nat) (s : St) : Prop where
  len : Len js.length s
  nw : ∀ i, i < js.length → (t < relAt js i ∨ (relAt js i = t ∧ m ≤ i)) → isAt s i = 0 ∧ kdAt s i = 0 ∧ ranAt s i = 0
  od : ∀ i, i < js.length → (relAt js i < t ∨ (relAt js i = t ∧ i < m)) → isAt s i = 1 ∨ isAt s i = 2
  kd : ∀ i, i < js.length → 0 ≤ kdAt s i ∧ kdAt s i ≤ 3
  rn : ∀ i, i < js.length → kdAt s i = 0 → 0 ≤ ranAt s i ∧ ranAt s i < workAt js i
theorem Inv.need_pos {t : Int} {m : Nat} {s : St} (h : Inv js t m s) (hf : Firm js) {i : Nat} (hi : i < js.length) (hk : kdAt s i = 0) : 1 ≤ need js s i := by
  have := h.rn i hi hk
  have := hf.at_ hi
  unfold need
  omega
/-- Telling what became of one that is open. -/
theorem Inv.say {t : Int} {m : Nat} {s : St} (h : Inv js t m s) {i : Nat} {k u : Int} (hi : i < js.length) (hk : 1 ≤ k ∧ k ≤ 3) (ho : isAt s i = 1 ∨ isAt s i = 2) : Inv js t m (say s i k u) := by
  have hl : i < s.fs.length := by rw [h.len.fs]; exact hi
  refine ⟨h.len.say _ _ _, fun j hj hc => ?_, h.od, fun j hj => ?_, fun j hj hc => ?_⟩
  · have h1 := h.nw j hj hc
    rw [kdAt_say _ _ _ _ _ hl]
    by_cases e : j = i
    · subst e; omega
    · rw [if_neg e]; exact h1
  · rw [kdAt_say _ _ _ _ _ hl]
    split
    · omega
    · exact h.kd j hj
  · rw [kdAt_say _ _ _ _ _ hl] at hc
    by_cases e : j = i
    · rw [if_pos e] at hc; omega
    · rw [if_neg e] at hc; exact h.rn j hj hc
theorem say_opn {s : St} {i j : Nat} {k u c : Int} (hi : i < s.fs.length) (hk : k ≠ 0) : opn (say s i k u) j c = true → opn s j c = true := by
  intro h
  obtain ⟨h1, h2⟩ := opn_eq.1 h
  rw [kdAt_say _ _ _ _ _ hi] at h2
  by_cases e : j = i
  · rw [if_pos e] at h2; exact absurd h2 hk
  · rw [if_neg e] at h2; exact opn_eq.2 ⟨h1, h2⟩
theorem late_inv (hf : Firm js) {t : Int} {s : St} (h : Inv js t 0 s) (hfit : Fit js s t) : ∀ n, n ≤ js.length → Inv js t 0 (late js t s n) ∧ Fit js (late js t s n) t := by
  intro n
  induction n with
  | zero => intro _; exact ⟨h, hfit⟩
  | succ n ih =>
    intro hn
    obtain ⟨h1, h2⟩ := ih (by omega)
    simp only [late]
    split
    · rename_i hc
      obtain ⟨ho, hk⟩ := opn_eq.1 hc.1
      have hl : n < (late js t s n).fs.length := by rw [h1.len.fs]; omega
      refine ⟨h1.say (by omega) (by omega) (.inr ho), h2.mono (fun i hi hh => by have := h1.need_pos hf hi (opn_eq.1 hh).2; omega) (fun i hi hh => ⟨say_opn hl (by omega) hh, Int.le_refl _⟩)⟩
    · exact ⟨h1, h2⟩
/-- How many are taken, of the first n. -/
def taken (s : St) : Nat → Nat
  | 0 => 0
  | n + 1 => taken s n + if isAt s n = 1 then 1 else 0
theorem taken_le (s : St) (n : Nat) : taken s n ≤ n := by
  induction n with
  | zero => exact Nat.le_refl _
  | succ n ih => simp only [taken]; split <;> omega
theorem taken_less {s s' : St} {k : Nat} (hk : isAt s k = 1) (hs : ∀ j, isAt s' j = if j = k then 2 else isAt s j) : ∀ n, k < n → taken s' n + 1 = taken s n := by
  have key : ∀ n, n ≤ k → taken s' n = taken s n := by
    intro n
    induction n with
    | zero => intro _; rfl
    | succ n ih =>
      intro h
      have e : ¬ n = k := by omega
      simp only [taken]
      rw [ih (by omega), hs n, if_neg e]
  intro n
  induction n with
  | zero => intro h; omega
  | succ n ih =>
    intro h
    simp only [taken]
    rw [hs n]
    by_cases e : n = k
    · subst e
      rw [key n (Nat.le_refl _), if_pos rfl, hk]
      simp
    · rw [if_neg e]
      have := ih (by omega)
      omega
theorem least_bd (s : St) : ∀ n, -1 ≤ least js s n ∧ least js s n < n := by
  intro n
  induction n with
  | zero => simp [least]
  | succ n ih => simp only [least]; split <;> omega
theorem leastp_is (s : St) : ∀ n, 0 ≤ least js s n → opn s (least js s n).toNat 1 = true ∧ ranAt s (least js s n).toNat < budAt js (least js s n).toNat := by
  intro n
  induction n with
  | zero => intro h; simp [least] at h
  | succ n ih =>
    simp only [least]
    split
    · rename_i hc; intro _; simp only [Int.toNat_natCast]; exact ⟨hc.1, hc.2.2.1⟩
    · exact ih
theorem least_none (s : St) : ∀ n, least js s n < 0 → ∀ i, i < n → ¬ (opn s i 1 = true ∧ hardAt js i = false ∧ ranAt s i < budAt js i) := by
  intro n
  induction n with
  | zero => intro _ i hi; omega
  | succ n ih =>
    simp only [least]
    intro h i hi hc
    split at h
    · omega
    · rename_i hn
      by_cases e : i = n
      · subst e
        exact hn ⟨hc.1, hc.2.1, hc.2.2, .inl h⟩
      · exact ih h i (by omega) hc
theorem isAt_give (s : St) (k j : Nat) (hk : k < s.is.length) : isAt (give s k) j = if j = k then 2 else isAt s j := getD_set_int _ _ _ _ hk
/-- The loop of 'arrive': it ends with all that are taken fitting. -/
theorem arrLoop_inv (hf : Firm js) {t : Int} {i n0 : Nat} {s0 : St} (h0 : Inv js t i s0) (hfit : Fit js s0 t) (hi : i < js.length) (hr : relAt js i = t) :
    ∀ f s, taken s js.length < f → Inv js t (i + 1) s → (∀ j, j < js.length → opn s j 1 = true → j = i ∨ opn s0 j 1 = true) → (∀ j, j < js.length → ranAt s j = ranAt s0 j) →
      Inv js t (i + 1) (arrLoop js t i n0 f s) ∧ Fit js (arrLoop js t i n0 f s) t := by
  intro f
  induction f with
  | zero => intro s h; omega
  | succ f ih =>
    intro s hc hI hsub hran
    simp only [arrLoop]
    by_cases hfs : fits js s t = true
    · rw [if_pos hfs]
      exact ⟨hI, (fits_iff js s t).1 hfs⟩
    · rw [if_neg hfs]
      by_cases hl : least js s js.length < 0
      · exfalso
        apply hfs
        rw [fits_iff]
        have hno := least_none s js.length hl
        refine hfit.mono (fun j hj hh => by have := h0.need_pos hf hj (opn_eq.1 hh).2; omega) (fun j hj hh => ?_)
        rcases hsub j hj hh with e | e
        · subst e
          have h1 := h0.nw j hj (.inr ⟨hr, Nat.le_refl _⟩)
          have h2 := hf.at_ hj
          exact absurd ⟨hh, h2.2.2.2.2.2, by rw [hran j hj]; omega⟩ (hno j hj)
        · exact ⟨e, by unfold need; rw [hran j hj]; exact Int.le_refl _⟩
      · rw [if_neg hl]
        have hb := least_bd (js := js) s js.length
        have hk := leastp_is (js := js) s js.length (by omega)
        obtain ⟨k, hke⟩ : ∃ k : Nat, k = (least js s js.length).toNat := ⟨_, rfl⟩
        rw [← hke] at hk ⊢
        have hkl : k < js.length := by omega
        have hkl' : k < s.is.length := by rw [hI.len.is]; exact hkl
        obtain ⟨ho, hkk⟩ := opn_eq.1 hk.1
        have hg := fun j => isAt_give s k j hkl'
        have htk := taken_less ho hg js.length hkl
        refine ih (give s k) (by omega) ⟨⟨by simp [give, hI.len.is], hI.len.ran, hI.len.fs⟩, fun j hj hc => ?_, fun j hj hc => ?_, hI.kd, hI.rn⟩ (fun j hj hh => ?_) hran
        · have := hI.nw j hj hc
          rw [hg]
          by_cases e : j = k
          · subst e; omega
          · rw [if_neg e]; exact this
        · rw [hg]
          by_cases e : j = k
          · rw [if_pos e]; exact .inr rfl
          · rw [if_neg e]; exact hI.od j hj hc
        · obtain ⟨h1, h2⟩ := opn_eq.1 hh
          rw [hg] at h1
          by_cases e : j = k
          · rw [if_pos e] at h1; omega
          · rw [if_neg e] at h1; exact hsub j hj (opn_eq.2 ⟨h1, h2⟩)
theorem arrive_inv (hf : Firm js) {t : Int} {i : Nat} {s : St} (h : Inv js t i s) (hfit : Fit js s t) (hi : i < js.length) (hr : relAt js i = t) : Inv js t (i + 1) (arrive js t s i) ∧ Fit js (arrive js t s i) t := by
  have hl : i < s.is.length := by rw [h.len.is]; exact hi
  have hg := fun j => isAt_setI s i j 1 hl
  have hn := h.nw i hi (.inr ⟨hr, Nat.le_refl _⟩)
  refine arrLoop_inv hf h hfit hi hr (js.length + 1) (setI s i 1) (by have := taken_le (setI s i 1) js.length; omega) ⟨h.len.setI _ _, fun j hj hc => ?_, fun j hj hc => ?_, h.kd, h.rn⟩ (fun j hj hh => ?_) (fun j hj => rfl)
  · rw [hg, if_neg (by intro e; subst e; omega)]
    exact h.nw j hj (by omega)
  · rw [hg]
    by_cases e : j = i
    · rw [if_pos e]; exact .inl rfl
    · rw [if_neg e]; exact h.od j hj (by omega)
  · obtain ⟨h1, h2⟩ := opn_eq.1 hh
    rw [hg] at h1
    by_cases e : j = i
    · exact .inl e
    · rw [if_neg e] at h1; exact .inr (opn_eq.2 ⟨h1, h2⟩)
theorem arrs_inv (hf : Firm js) {t : Int} {s : St} (h : Inv js t 0 s) (hfit : Fit js s t) : ∀ n, n ≤ js.length → Inv js t n (arrs js t s n) ∧ Fit js (arrs js t s n) t := by
  intro n
  induction n with
  | zero => intro _; exact ⟨h, hfit⟩
  | succ n ih =>
    intro hn
    obtain ⟨h1, h2⟩ := ih (by omega)
    simp only [arrs]
    split
    · rename_i hr; exact arrive_inv hf h1 h2 (by omega) hr
    · rename_i hr
      refine ⟨⟨h1.len, fun j hj hc => h1.nw j hj ?_, fun j hj hc => h1.od j hj ?_, h1.kd, h1.rn⟩, h2⟩
      · omega
      · by_cases e : j = n
        · subst e; omega
        · omega
end
end Rob
end Go.Proofs.YtbgiegecfapmlaaGreatDoor
