/- What each step of the runner keeps of its bounds; conditions: jobs as chapter 8 asks. -/
import Derived.Test.YtbgiegecfapmlaaGreatDoorRobFirm
namespace Go.Proofs.YtbgiegecfapmlaaGreatDoor
set_option linter.unusedVariables false
namespace Rob
open Edf
section
variable {js : List J}
theorem oks_at (h : ∀ x ∈ js, x.Ok) {i : Nat} (hi : i < js.length) : 1 ≤ workAt js i ∧ workAt js i ≤ chAt js i ∧ chAt js i ≤ 1100 ∧ 0 ≤ dlAt js i ∧ dlAt js i ≤ 10000 := by
  have ho := h _ (List.getElem_mem hi)
  have hw := J.work_le ho
  have h1 := ho.bud; have h2 := ho.cln; have h3 := ho.rel; have h4 := ho.dl; have h5 := ho.most
  unfold workAt chAt dlAt
  rw [List.getElem?_eq_getElem hi]
  refine ⟨hw.1, hw.2, ?_, ?_, h5⟩
  · show js[i].charge ≤ 1100
    unfold J.charge; omega
  · show 0 ≤ js[i].dl
    omega
/-- The bounds that a runner keeps. -/
structure Bnd (js : List J) (a : Nat) (s : St) : Prop where
  len : Len js.length s
  ran : ∀ i, i < js.length → 0 ≤ ranAt s i ∧ ranAt s i ≤ 1100
  ch : ∀ i, i < js.length → kdAt s i = 0 → ranAt s i + 1 ≤ workAt js i
  shs : ∀ x ∈ s.sh, 0 ≤ x ∧ x < (js.length : Int)
  tr : s.tr.length ≤ a
  sh : s.sh.length ≤ a
  ag : s.ag.length ≤ a
variable {a b : Nat} {s : St}
theorem Bnd.mono (h : Bnd js a s) (hab : a ≤ b) : Bnd js b s := ⟨h.len, h.ran, h.ch, h.shs, Nat.le_trans h.tr hab, Nat.le_trans h.sh hab, Nat.le_trans h.ag hab⟩
theorem Bnd.say (h : Bnd js a s) (i : Nat) {k t : Int} (hk : k ≠ 0) : Bnd js a (say s i k t) := by
  refine ⟨h.len.say _ _ _, h.ran, fun j hj hc => ?_, h.shs, h.tr, h.sh, h.ag⟩
  by_cases hi : i < s.fs.length
  · rw [kdAt_say _ _ _ _ _ hi] at hc
    by_cases e : j = i
    · rw [if_pos e] at hc; exact absurd hc hk
    · rw [if_neg e] at hc; exact h.ch j hj hc
  · have e : (Rob.say s i k t).fs = s.fs := List.set_eq_of_length_le (by omega)
    have : kdAt (Rob.say s i k t) j = kdAt s j := by unfold kdAt; rw [e]
    rw [this] at hc
    exact h.ch j hj hc
theorem Bnd.is (h : Bnd js a s) (l : List Int) (hl : l.length = js.length) : Bnd js a { s with is := l } := ⟨⟨hl, h.len.ran, h.len.fs⟩, h.ran, h.ch, h.shs, h.tr, h.sh, h.ag⟩
theorem Bnd.setI (h : Bnd js a s) (i : Nat) (k : Int) : Bnd js a (setI s i k) := h.is _ (by rw [List.length_set]; exact h.len.is)
theorem Bnd.late (h : Bnd js a s) (now : Int) (n : Nat) : Bnd js a (late js now s n) := by
  induction n with
  | zero => exact h
  | succ n ih =>
    simp only [Rob.late]
    split
    · exact ih.say _ (by decide)
    · exact ih
theorem Bnd.last (h : Bnd js a s) (now : Int) (n : Nat) : Bnd js a (lastTo now s n) := by
  induction n with
  | zero => exact h
  | succ n ih =>
    simp only [Rob.lastTo]
    split
    · exact ih.say _ (by decide)
    · exact ih
theorem Bnd.give (h : Bnd js a s) {k : Nat} (hk : k < js.length) : Bnd js (a + 1) (give s k) := by
  refine ⟨⟨by simp [Rob.give, h.len.is], h.len.ran, h.len.fs⟩, h.ran, h.ch, fun x hx => ?_, by have := h.tr; show s.tr.length ≤ _; omega, ?_, by have := h.ag; show s.ag.length ≤ _; omega⟩
  · simp only [Rob.give, List.mem_append, List.mem_singleton] at hx
    rcases hx with hx | rfl
    · exact h.shs x hx
    · omega
  · have := h.sh
    simp [Rob.give]; omega
theorem foldl_set_len (l : List Int) : ∀ is : List Int, (l.foldl (fun is k => is.set k.toNat 1) is).length = is.length := by
  induction l with
  | nil => intro is; rfl
  | cons x l ih => intro is; rw [List.foldl_cons, ih, List.length_set]
theorem Bnd.refuse (h : Bnd js a s) (now : Int) (i n0 : Nat) : Bnd js a (refuse now i n0 s) := by
  have h1 : Bnd js a { s with is := (s.sh.drop n0).foldl (fun is k => is.set k.toNat 1) s.is, sh := s.sh.take n0 } := by
    refine ⟨⟨by rw [foldl_set_len]; exact h.len.is, h.len.ran, h.len.fs⟩, h.ran, h.ch, fun x hx => h.shs x (List.mem_of_mem_take hx), h.tr, ?_, h.ag⟩
    have := h.sh
    simp only [List.length_take]; omega
  exact h1.say _ (by decide)
theorem Bnd.arrLoop (now : Int) (i n0 : Nat) : ∀ (f a : Nat) (s : St), Bnd js a s → Bnd js (a + f) (arrLoop js now i n0 f s) := by
  intro f
  induction f with
  | zero => intro a s h; exact h
  | succ f ih =>
    intro a s h
    simp only [Rob.arrLoop]
    split
    · exact h.mono (by omega)
    · split
      · exact (h.refuse now i n0).mono (by omega)
      · rename_i hl
        have hb := least_bd (js := js) s js.length
        have := ih (a + 1) _ (h.give (k := (least js s js.length).toNat) (by omega))
        exact this.mono (by omega)
theorem Bnd.arrive (h : Bnd js a s) (now : Int) (i : Nat) : Bnd js (a + (js.length + 1)) (arrive js now s i) := Bnd.arrLoop now i _ _ _ _ (h.setI i 1)
theorem Bnd.arrs (h : Bnd js a s) (now : Int) (n : Nat) : Bnd js (a + n * (js.length + 1)) (arrs js now s n) := by
  induction n with
  | zero => exact h.mono (by omega)
  | succ n ih =>
    simp only [Rob.arrs]
    split
    · exact (ih.arrive now n).mono (by rw [Nat.succ_mul]; omega)
    · exact ih.mono (by rw [Nat.succ_mul]; omega)
theorem Bnd.againGo (now : Int) : ∀ (l : List Nat) (a : Nat) (s : St), Bnd js a s → Bnd js (a + l.length) (againGo js now l s) := by
  intro l
  induction l with
  | nil => intro a s h; exact h
  | cons i l ih =>
    intro a s h
    simp only [Rob.againGo, List.length_cons]
    split
    · have h1 := h.setI i 1
      have := ih (a + 1) { Rob.setI s i 1 with ag := s.ag ++ [(i : Int)] } ⟨⟨h1.len.is, h1.len.ran, h1.len.fs⟩, h1.ran, h1.ch, h1.shs, by have := h.tr; show s.tr.length ≤ _; omega, by have := h.sh; show s.sh.length ≤ _; omega, by have := h.ag; simp; omega⟩
      exact this.mono (by omega)
    · exact (ih a _ ((h.setI i 1).setI i 2)).mono (by omega)
theorem shedTo_len (s : St) (n : Nat) : (shedTo s n).length ≤ n := by
  induction n with
  | zero => exact Nat.le_refl _
  | succ n ih => simp only [shedTo, List.length_append]; split <;> simp <;> omega
theorem Bnd.again (h : Bnd js a s) (now : Int) : Bnd js (a + js.length) (again js now s) := by
  have hl := (sortV_perm (js := js) (shedTo s js.length) (fun x hx => ((shedTo_mem _ _ _).1 hx).1)).length_eq
  have := shedTo_len s js.length
  exact (Bnd.againGo now (sortV js (shedTo s js.length)) a s h).mono (by omega)
theorem Bnd.workB (h : Bnd js a s) (hg : ∀ x ∈ js, x.Ok) {i : Nat} (hi : i < js.length) (hk : kdAt s i = 0) :
    ((work1 s i).is = s.is ∧ (work1 s i).fs = s.fs) ∧ Len js.length (work1 s i) ∧ (∀ j, j < js.length → 0 ≤ ranAt (work1 s i) j ∧ ranAt (work1 s i) j ≤ 1100) ∧ (∀ j, j < js.length → j ≠ i → kdAt s j = 0 → ranAt (work1 s i) j + 1 ≤ workAt js j) := by
  have hr : i < s.ran.length := by rw [h.len.ran]; exact hi
  have h0 := h.ch i hi hk
  have h1 := oks_at hg hi
  have h2 := h.ran i hi
  refine ⟨⟨rfl, rfl⟩, ⟨h.len.is, by simp [Rob.work1, h.len.ran], h.len.fs⟩, fun j hj => ?_, fun j hj hne hkj => ?_⟩
  · rw [ranAt_work _ _ _ hr]
    split
    · omega
    · exact h.ran j hj
  · rw [ranAt_work _ _ _ hr, if_neg hne]; exact h.ch j hj hkj
/-- The bounds, but for one job whose work may be done. -/
theorem Bnd.worked (h : Bnd js a s) (hg : ∀ x ∈ js, x.Ok) {i : Nat} (hi : i < js.length) (hk : kdAt s i = 0) : (ranAt (work1 s i) i < workAt js i → Bnd js a (work1 s i)) ∧ ∀ k t : Int, k ≠ 0 → Bnd js a (Rob.say (work1 s i) i k t) := by
  obtain ⟨_, h2, h3, h4⟩ := h.workB hg hi hk
  refine ⟨fun hw => ⟨h2, h3, fun j hj hc => ?_, h.shs, h.tr, h.sh, h.ag⟩, fun k t hne => ⟨h2.say _ _ _, h3, fun j hj hc => ?_, h.shs, h.tr, h.sh, h.ag⟩⟩
  · by_cases e : j = i
    · subst e; omega
    · exact h4 j hj e hc
  · have hf : i < (work1 s i).fs.length := by rw [h2.fs]; exact hi
    rw [kdAt_say _ _ _ _ _ hf] at hc
    by_cases e : j = i
    · rw [if_pos e] at hc; exact absurd hc hne
    · rw [if_neg e] at hc; exact h4 j hj e hc
theorem Bnd.run (h : Bnd js a s) (hg : ∀ x ∈ js, x.Ok) (now : Int) : Bnd js (a + 1 + js.length) (run js now s) := by
  have ht : ∀ x : Int, Bnd js (a + 1) { s with tr := s.tr ++ [x] } := fun x => ⟨⟨h.len.is, h.len.ran, h.len.fs⟩, h.ran, h.ch, h.shs, by have := h.tr; simp; omega, by have := h.sh; show s.sh.length ≤ _; omega, by have := h.ag; show s.ag.length ≤ _; omega⟩
  unfold Rob.run
  by_cases hh : head js s js.length < 0
  · rw [if_pos hh]; exact (ht _).mono (by omega)
  · rw [if_neg hh]
    have hb := head_bd (js := js) s js.length
    obtain ⟨ho, _⟩ := headp_is (js := js) s js.length (by omega)
    have hk := (opn_eq.1 ho).2
    obtain ⟨w1, w2⟩ := (ht (head js s js.length)).worked hg (i := (head js s js.length).toNat) (by omega) hk
    unfold fin
    split
    · rename_i hw; exact (w1 hw).mono (by omega)
    · split
      · exact (w2 2 (now + 1) (by decide)).mono (by omega)
      · split
        · exact (w2 1 (now + 1) (by decide)).again now
        · exact (w2 1 (now + 1) (by decide)).mono (by omega)
theorem Bnd.step (h : Bnd js a s) (hg : ∀ x ∈ js, x.Ok) (hn : js.length ≤ 12) (now : Int) : Bnd js (a + 200) (step js now s) := by
  have := ((h.late now js.length).arrs now js.length).run hg now
  refine this.mono ?_
  have : js.length * (js.length + 1) ≤ 12 * 13 := Nat.mul_le_mul hn (by omega)
  omega
theorem Bnd.start0 (hg : ∀ x ∈ js, x.Ok) : Bnd js 0 (start js) := by
  have h0 : ∀ i, kdAt (start js) i = 0 ∧ ranAt (start js) i = 0 := by
    intro i
    unfold kdAt ranAt Rob.start
    simp only [List.getD_eq_getElem?_getD, List.getElem?_replicate]
    refine ⟨?_, ?_⟩ <;> (split <;> rfl)
  refine ⟨⟨by simp [Rob.start], by simp [Rob.start], by simp [Rob.start]⟩, fun i hi => ?_, fun i hi _ => ?_, fun x hx => (by cases hx), Nat.le_refl _, Nat.le_refl _, Nat.le_refl _⟩
  · rw [(h0 i).2]; omega
  · have := oks_at hg hi; rw [(h0 i).2]; omega
theorem Bnd.plays (hg : ∀ x ∈ js, x.Ok) (hn : js.length ≤ 12) (n : Nat) : Bnd js (200 * n) (play js (start js) n) := by
  induction n with
  | zero => exact Bnd.start0 hg
  | succ n ih => simp only [Rob.play]; exact (ih.step hg hn n).mono (by omega)
end
end Rob
end Go.Proofs.YtbgiegecfapmlaaGreatDoor
