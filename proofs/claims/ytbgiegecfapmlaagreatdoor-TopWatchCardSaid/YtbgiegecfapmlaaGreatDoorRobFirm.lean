/- Firm jobs alone are never refused by package robust: each is met, aborted, or shed: tick by tick; conditions: jobs as chapter 8 asks. -/
import Derived.Test.YtbgiegecfapmlaaGreatDoorRobInv
namespace Go.Proofs.YtbgiegecfapmlaaGreatDoor
set_option linter.unusedVariables false
namespace Rob
open Edf
section
variable {js : List J}
theorem Inv.next {t : Int} {s : St} (h : Inv js t js.length s) : Inv js (t + 1) 0 s :=
  ⟨h.len, fun i hi hc => h.nw i hi (by omega), fun i hi hc => h.od i hi (by omega), h.kd, h.rn⟩
theorem Inv.tr {t : Int} {m : Nat} {s : St} (h : Inv js t m s) (l : List Int) : Inv js t m { s with tr := l } := ⟨⟨h.len.is, h.len.ran, h.len.fs⟩, h.nw, h.od, h.kd, h.rn⟩
theorem Inv.ag {t : Int} {m : Nat} {s : St} (h : Inv js t m s) (l : List Int) : Inv js t m { s with ag := l } := ⟨⟨h.len.is, h.len.ran, h.len.fs⟩, h.nw, h.od, h.kd, h.rn⟩
theorem head_bd (s : St) : ∀ n, -1 ≤ head js s n ∧ head js s n < n := by
  intro n
  induction n with
  | zero => simp [head]
  | succ n ih => simp only [head]; split <;> omega
theorem head_none (s : St) : ∀ n, head js s n < 0 → ∀ i, i < n → ¬ opn s i 1 = true := by
  intro n
  induction n with
  | zero => intro _ i hi; omega
  | succ n ih =>
    simp only [head]
    intro h i hi ho
    split at h
    · omega
    · rename_i hn
      by_cases e : i = n
      · subst e; exact hn ⟨ho, .inl h⟩
      · exact ih h i (by omega) ho
theorem headp_is (s : St) : ∀ n, 0 ≤ head js s n → opn s (head js s n).toNat 1 = true ∧ ∀ i, i < n → opn s i 1 = true → dlAt js (head js s n).toNat ≤ dlAt js i := by
  intro n
  induction n with
  | zero => intro h; simp [head] at h
  | succ n ih =>
    simp only [head]
    split
    · rename_i hc
      intro _
      simp only [Int.toNat_natCast]
      refine ⟨hc.1, fun i hi ho => ?_⟩
      by_cases e : i = n
      · subst e; exact Int.le_refl _
      · by_cases h1 : head js s n < 0
        · exact absurd ho (head_none s n h1 i (by omega))
        · have h3 := hc.2.resolve_left h1
          have := (ih (by omega)).2 i (by omega) ho
          omega
    · rename_i hn
      intro h
      obtain ⟨h1, h2⟩ := ih h
      refine ⟨h1, fun i hi ho => ?_⟩
      by_cases e : i = n
      · subst e
        rcases Int.lt_or_le (dlAt js i) (dlAt js (head js s i).toNat) with h3 | h3
        · exact absurd ⟨ho, .inr h3⟩ hn
        · exact h3
      · exact h2 i (by omega) ho
/-- One tick's work on the one with the least deadline: all fit from the next tick on. -/
theorem Fit.work {s s' : St} {t : Int} {k : Nat} (h : Fit js s t) (hk : k < js.length) (ho : opn s k 1 = true) (hmin : ∀ i, i < js.length → opn s i 1 = true → dlAt js k ≤ dlAt js i)
    (hn : ∀ i, i < js.length → opn s i 1 = true → 1 ≤ need js s i)
    (hs : ∀ i, i < js.length → i ≠ k → opn s' i 1 = true → opn s i 1 = true ∧ need js s' i = need js s i) (hsk : opn s' k 1 = true → need js s' k + 1 ≤ need js s k) : Fit js s' (t + 1) := by
  intro i hi hoi
  have hoi' : opn s i 1 = true := by
    by_cases e : i = k
    · subst e; exact ho
    · exact (hs i hi e hoi).1
  have h1 := h i hi hoi'
  have h2 := hmin i hi hoi'
  have h3 : sumTo (term js s' (dlAt js i)) js.length + 1 ≤ sumTo (term js s (dlAt js i)) js.length := by
    have e1 : ∀ j, opn s j 1 = true → dlAt js j ≤ dlAt js i → term js s (dlAt js i) j = need js s j := fun j a b => by unfold term; rw [if_pos ⟨a, b⟩]
    refine sumTo_lt _ _ _ k hk (fun j hj => ?_) ?_
    · by_cases e : j = k
      · subst e
        rw [e1 j ho h2]
        have := hn j hj ho
        unfold term
        split
        · rename_i hc; have := hsk hc.1; omega
        · omega
      · by_cases hc : opn s' j 1 = true ∧ dlAt js j ≤ dlAt js i
        · obtain ⟨h4, h5⟩ := hs j hj e hc.1
          rw [e1 j h4 hc.2, ← h5]
          unfold term
          rw [if_pos hc]
          exact Int.le_refl _
        · have e2 : term js s' (dlAt js i) j = 0 := by unfold term; rw [if_neg hc]
          rw [e2]
          unfold term
          split
          · rename_i h4; have := hn j hj h4.1; omega
          · exact Int.le_refl _
    · rw [e1 k ho h2]
      have := hn k hk ho
      unfold term
      split
      · rename_i hc; exact hsk hc.1
      · omega
  omega
theorem ltV_is (x y : Fin js.length) : ltOf (cfV js) x y = decide (valAt js y.val < valAt js x.val) := by
  unfold ltOf cfV Lib.compareInt
  by_cases h1 : valAt js y.val < valAt js x.val
  · simp [h1]
  · by_cases h2 : valAt js x.val < valAt js y.val
    · simp [h1, h2]
    · simp [h1, h2]
theorem swoV : Go.Sort.SWO (ltOf (cfV js)) := by
  refine ⟨fun x => ?_, fun x y z => ?_, fun x y z => ?_⟩
  · rw [ltV_is]; simp
  · rw [ltV_is, ltV_is, ltV_is]; simp; omega
  · rw [ltV_is, ltV_is, ltV_is]; simp; omega
theorem finsOf_map (l : List Nat) (hl : ∀ x ∈ l, x < js.length) : (finsOf js l).map (·.val) = l := by
  induction l with
  | nil => rfl
  | cons x l ih =>
    have hx := hl x (by simp)
    unfold finsOf at ih ⊢
    rw [List.filterMap_cons_some (b := ⟨x, hx⟩) (by simp [hx]), List.map_cons, ih fun y hy => hl y (by simp [hy])]
theorem finsOf_len (l : List Nat) (hl : ∀ x ∈ l, x < js.length) : (finsOf js l).length = l.length := by
  have := congrArg List.length (finsOf_map l hl)
  simpa using this
theorem sortV_key (I : Inhabited (Fin js.length)) (l : List Nat) (hl : ∀ x ∈ l, x < js.length) : ((Go.Sort.insertionSort (ltOf (cfV js)) (finsOf js l).toArray 0 (finsOf js l).length).toList.map (·.val)).Perm l := by
  have hP := (Go.Sort.insertionSort_holds swoV (finsOf js l).toArray 0 (finsOf js l).length (Nat.zero_le _) (by simp)).1
  generalize Go.Sort.insertionSort (ltOf (cfV js)) (finsOf js l).toArray 0 (finsOf js l).length = D at hP ⊢
  have hD : D.size = (finsOf js l).length := by rw [hP.1]; simp
  have := hP.2.2
  rw [show D.extract 0 (finsOf js l).length = D by rw [← hD]; simp, show (finsOf js l).toArray.extract 0 (finsOf js l).length = (finsOf js l).toArray by simp] at this
  have h2 := (this.map (·.val))
  simp only at h2
  rw [finsOf_map l hl] at h2
  exact h2
theorem sortV_perm (l : List Nat) (hl : ∀ x ∈ l, x < js.length) : (sortV js l).Perm l := by
  unfold sortV
  split
  · exact sortV_key _ l hl
  · exact List.Perm.refl _
theorem sortV_mem (l : List Nat) (hl : ∀ x ∈ l, x < js.length) (y : Nat) : y ∈ sortV js l ↔ y ∈ l := (sortV_perm l hl).mem_iff
theorem shedTo_mem (s : St) (n : Nat) (i : Nat) : i ∈ shedTo s n ↔ i < n ∧ opn s i 2 = true := by
  induction n with
  | zero => simp [shedTo]
  | succ n ih =>
    simp only [shedTo, List.mem_append, ih]
    constructor
    · rintro (⟨h1, h2⟩ | h)
      · exact ⟨by omega, h2⟩
      · split at h
        · rename_i hc; simp at h; subst h; exact ⟨by omega, hc⟩
        · cases h
    · rintro ⟨h1, h2⟩
      by_cases e : i = n
      · subst e; right; rw [if_pos h2]; simp
      · exact .inl ⟨by omega, h2⟩
theorem Inv.set_is {t : Int} {m : Nat} {s : St} (h : Inv js t m s) {i : Nat} (hi : i < js.length) (ho : relAt js i < t ∨ (relAt js i = t ∧ i < m)) (k : Int) (hk : k = 1 ∨ k = 2) : Inv js t m (setI s i k) := by
  have hl : i < s.is.length := by rw [h.len.is]; exact hi
  refine ⟨h.len.setI _ _, fun j hj hc => ?_, fun j hj hc => ?_, h.kd, h.rn⟩
  · rw [isAt_setI _ _ _ _ hl, if_neg (by intro e; subst e; omega)]
    exact h.nw j hj hc
  · rw [isAt_setI _ _ _ _ hl]
    by_cases e : j = i
    · rw [if_pos e]; exact hk
    · rw [if_neg e]; exact h.od j hj hc
theorem again_inv (hf : Firm js) {t : Int} : ∀ (l : List Nat) (s : St), (∀ i ∈ l, i < js.length ∧ relAt js i < t + 1) → Inv js (t + 1) 0 s → Fit js s (t + 1) → Inv js (t + 1) 0 (againGo js t l s) ∧ Fit js (againGo js t l s) (t + 1) := by
  intro l
  induction l with
  | nil => intro s _ h1 h2; exact ⟨h1, h2⟩
  | cons i l ih =>
    intro s hl h1 h2
    obtain ⟨hi, hr⟩ := hl i (by simp)
    have hll : i < s.is.length := by rw [h1.len.is]; exact hi
    have I1 := h1.set_is hi (.inl hr) 1 (.inl rfl)
    simp only [againGo]
    split
    · rename_i hfs
      exact ih _ (fun j hj => hl j (by simp [hj])) (I1.ag _) ((fits_iff js (setI s i 1) (t + 1)).1 hfs)
    · refine ih _ (fun j hj => hl j (by simp [hj])) (I1.set_is hi (.inl hr) 2 (.inr rfl)) (h2.mono (fun j hj hh => by have := h1.need_pos hf hj (opn_eq.1 hh).2; omega) (fun j hj hh => ?_))
      obtain ⟨h3, h4⟩ := opn_eq.1 hh
      rw [isAt_setI _ _ _ _ (by rw [I1.len.is]; exact hi), isAt_setI _ _ _ _ hll] at h3
      by_cases e : j = i
      · rw [if_pos e] at h3; omega
      · rw [if_neg e, if_neg e] at h3
        exact ⟨opn_eq.2 ⟨h3, h4⟩, Int.le_refl _⟩
theorem run_inv (hf : Firm js) {t : Int} {s : St} (h : Inv js t js.length s) (hfit : Fit js s t) : Inv js (t + 1) 0 (run js t s) ∧ Fit js (run js t s) (t + 1) := by
  have hN := h.next
  unfold run
  by_cases hh : head js s js.length < 0
  · rw [if_pos hh]
    exact ⟨hN.tr _, fun i hi ho => absurd ho (head_none s js.length hh i hi)⟩
  · rw [if_neg hh]
    have hb := head_bd (js := js) s js.length
    obtain ⟨ho, hmin⟩ := headp_is (js := js) s js.length (by omega)
    obtain ⟨k, hk⟩ : ∃ k : Nat, k = (head js s js.length).toNat := ⟨_, rfl⟩
    have hhk : head js s js.length = (k : Int) := by omega
    rw [hhk] at ho hmin ⊢
    simp only [Int.toNat_natCast] at ho hmin ⊢
    have hkl : k < js.length := by omega
    have T := hN.tr (s.tr ++ [(k : Int)])
    obtain ⟨s0, hs0⟩ : ∃ s0 : St, s0 = { s with tr := s.tr ++ [(k : Int)] } := ⟨_, rfl⟩
    rw [← hs0] at T ⊢
    have hF0 : Fit js s0 t := by rw [hs0]; exact hfit
    have ho0 : opn s0 k 1 = true := by rw [hs0]; exact ho
    have hmin0 : ∀ i, i < js.length → opn s0 i 1 = true → dlAt js k ≤ dlAt js i := by rw [hs0]; exact hmin
    have hneed : ∀ i, i < js.length → opn s0 i 1 = true → 1 ≤ need js s0 i := fun i hi hoi => T.need_pos hf hi (opn_eq.1 hoi).2
    clear hs0 hfit ho hmin h hN hh hb hk hhk
    have hlr : k < s0.ran.length := by rw [T.len.ran]; exact hkl
    have hlf : k < s0.fs.length := by rw [T.len.fs]; exact hkl
    have hrw := fun j => ranAt_work s0 k j hlr
    have hold : isAt s0 k = 1 := (opn_eq.1 ho0).1
    have hrel : relAt js k < t + 1 := by
      rcases Int.lt_or_le (relAt js k) (t + 1) with h1 | h1
      · exact h1
      · have := T.nw k hkl (by omega)
        omega
    have hneedw : ∀ j, j ≠ k → need js (work1 s0 k) j = need js s0 j := fun j hj => by unfold need; rw [hrw, if_neg hj]
    have hneedk : need js (work1 s0 k) k + 1 = need js s0 k := by unfold need; rw [hrw, if_pos rfl]; omega
    -- what became of it, told now
    have hsay : ∀ c u : Int, 1 ≤ c ∧ c ≤ 3 → Inv js (t + 1) 0 (say (work1 s0 k) k c u) ∧ Fit js (say (work1 s0 k) k c u) (t + 1) := by
      intro c u hc
      have hlf' : k < (work1 s0 k).fs.length := hlf
      have hkd := fun j => kdAt_say (work1 s0 k) k j c u hlf'
      refine ⟨⟨⟨T.len.is, by simp [say, work1, T.len.ran], by simp [say, work1, T.len.fs]⟩, fun j hj hcj => ?_, T.od, fun j hj => ?_, fun j hj h0 => ?_⟩, ?_⟩
      · have h1 := T.nw j hj hcj
        have hjk : j ≠ k := by intro e; subst e; omega
        refine ⟨h1.1, ?_, ?_⟩
        · rw [hkd, if_neg hjk]; exact h1.2.1
        · exact (hrw j).trans (by rw [if_neg hjk]; exact h1.2.2)
      · rw [hkd]
        split
        · omega
        · exact T.kd j hj
      · rw [hkd] at h0
        by_cases e : j = k
        · rw [if_pos e] at h0; omega
        · rw [if_neg e] at h0
          have := T.rn j hj h0
          have e2 : ranAt (say (work1 s0 k) k c u) j = ranAt s0 j := (hrw j).trans (by rw [if_neg e])
          rw [e2]; exact this
      · refine hF0.work hkl ho0 hmin0 hneed (fun j hj hjk hoj => ?_) (fun hok => ?_)
        · exact ⟨say_opn hlf' (by omega) hoj, hneedw j hjk⟩
        · have := (opn_eq.1 hok).2
          rw [hkd, if_pos rfl] at this
          omega
    unfold fin
    split
    · rename_i hw
      rw [hrw, if_pos rfl] at hw
      refine ⟨⟨⟨T.len.is, by simp [work1, T.len.ran], T.len.fs⟩, fun j hj hcj => ?_, T.od, T.kd, fun j hj h0 => ?_⟩, ?_⟩
      · have h1 := T.nw j hj hcj
        have hjk : j ≠ k := by intro e; subst e; omega
        exact ⟨h1.1, h1.2.1, by rw [hrw, if_neg hjk]; exact h1.2.2⟩
      · rw [hrw]
        have := T.rn j hj h0
        by_cases e : j = k
        · subst e; rw [if_pos rfl]; omega
        · rw [if_neg e]; exact this
      · exact hF0.work hkl ho0 hmin0 hneed (fun j hj hjk hoj => ⟨hoj, hneedw j hjk⟩) (fun _ => by omega)
    · split
      · exact hsay 2 (t + 1) (by omega)
      · split
        · obtain ⟨h1, h2⟩ := hsay 1 (t + 1) (by omega)
          unfold again
          refine again_inv hf _ _ (fun i hi => ?_) h1 h2
          rw [sortV_mem _ (fun x hx => ((shedTo_mem _ _ _).1 hx).1), shedTo_mem] at hi
          refine ⟨hi.1, ?_⟩
          rcases Int.lt_or_le (relAt js i) (t + 1) with h3 | h3
          · exact h3
          · have := h1.nw i hi.1 (by omega)
            have := (opn_eq.1 hi.2).1
            omega
        · exact hsay 1 (t + 1) (by omega)
theorem play_inv (hf : Firm js) : ∀ n : Nat, Inv js (n : Int) 0 (play js (start js) n) ∧ Fit js (play js (start js) n) n := by
  intro n
  induction n with
  | zero =>
    have h0 : ∀ i, isAt (start js) i = 0 ∧ kdAt (start js) i = 0 ∧ ranAt (start js) i = 0 := by
      intro i
      unfold isAt kdAt ranAt start
      simp only [List.getD_eq_getElem?_getD, List.getElem?_replicate]
      refine ⟨?_, ?_, ?_⟩ <;> (split <;> rfl)
    refine ⟨⟨⟨by simp [play, start], by simp [play, start], by simp [play, start]⟩, fun i hi _ => h0 i, fun i hi hc => ?_, fun i hi => ?_, fun i hi _ => ?_⟩, fun i hi ho => ?_⟩
    · have := hf.at_ hi; omega
    · have := (h0 i).2.1; show 0 ≤ kdAt (start js) i ∧ kdAt (start js) i ≤ 3; omega
    · have := (h0 i).2.2; have := hf.at_ hi; show 0 ≤ ranAt (start js) i ∧ ranAt (start js) i < workAt js i; omega
    · have := (opn_eq.1 ho).1; have h3 := (h0 i).1; have h4 : isAt (start js) i = 1 := this; omega
  | succ n ih =>
    simp only [play, step]
    obtain ⟨h1, h2⟩ := late_inv hf ih.1 ih.2 js.length (Nat.le_refl _)
    obtain ⟨h3, h4⟩ := arrs_inv hf h1 h2 js.length (Nat.le_refl _)
    have := run_inv hf h3 h4
    simpa using this
/-- Behind the last deadline something has become of each. -/
theorem result_firm (hf : Firm js) (e : Nat) (he : ∀ i, i < js.length → dlAt js i ≤ e) : (result js e).fs.length = js.length ∧ ∀ i, i < js.length → 1 ≤ kdAt (result js e) i ∧ kdAt (result js e) i ≤ 3 := by
  obtain ⟨h1, h2⟩ := play_inv hf e
  unfold result
  obtain ⟨s, hs⟩ : ∃ s, s = play js (start js) e := ⟨_, rfl⟩
  rw [← hs] at h1 h2 ⊢
  have hsh : ∀ i, i < js.length → kdAt s i = 0 → isAt s i = 2 := by
    intro i hi hk
    have ha := hf.at_ hi
    have hde := he i hi
    rcases h1.od i hi (.inl (by omega)) with h | h
    · exfalso
      have ho : opn s i 1 = true := opn_eq.2 ⟨h, hk⟩
      have hfi := h2 i hi ho
      have hone := sumTo_one (term js s (dlAt js i)) js.length i hi (fun j hj => by
        unfold term
        split
        · rename_i hc; have := h1.need_pos hf hj (opn_eq.1 hc.1).2; omega
        · exact Int.le_refl _)
      have hnp := h1.need_pos hf hi hk
      have ht : term js s (dlAt js i) i = need js s i := by unfold term; rw [if_pos ⟨ho, Int.le_refl _⟩]
      omega
    · exact h
  have key : ∀ n, n ≤ js.length → (lastTo (e : Int) s n).fs.length = js.length ∧ (∀ i, isAt (lastTo (e : Int) s n) i = isAt s i) ∧ (∀ i, i < js.length → (n ≤ i → kdAt (lastTo (e : Int) s n) i = kdAt s i) ∧ (i < n → 1 ≤ kdAt (lastTo (e : Int) s n) i ∧ kdAt (lastTo (e : Int) s n) i ≤ 3)) := by
    intro n
    induction n with
    | zero => intro _; exact ⟨h1.len.fs, fun _ => rfl, fun i hi => ⟨fun _ => rfl, fun h => by omega⟩⟩
    | succ n ih =>
      intro hn
      obtain ⟨a1, a2, a3⟩ := ih (by omega)
      have hln : n < (lastTo (e : Int) s n).fs.length := by rw [a1]; omega
      simp only [lastTo]
      by_cases hc : opn (lastTo (e : Int) s n) n 2 = true
      · rw [if_pos hc]
        refine ⟨by simp [say, a1], a2, fun i hi => ⟨fun h => ?_, fun h => ?_⟩⟩
        · rw [kdAt_say _ _ _ _ _ hln, if_neg (by omega)]
          exact (a3 i hi).1 (by omega)
        · rw [kdAt_say _ _ _ _ _ hln]
          by_cases ee : i = n
          · rw [if_pos ee]; omega
          · rw [if_neg ee]; exact (a3 i hi).2 (by omega)
      · rw [if_neg hc]
        refine ⟨a1, a2, fun i hi => ⟨fun h => (a3 i hi).1 (by omega), fun h => ?_⟩⟩
        by_cases ee : i = n
        · subst ee
          have hk := (a3 i hi).1 (Nat.le_refl _)
          have hkd := h1.kd i hi
          rw [hk]
          have hne : kdAt s i ≠ 0 := fun h0 => hc (opn_eq.2 ⟨(a2 i).trans (hsh i hi h0), hk.trans h0⟩)
          omega
        · exact (a3 i hi).2 (by omega)
  obtain ⟨b1, _, b3⟩ := key js.length (Nat.le_refl _)
  exact ⟨b1, fun i hi => (b3 i hi).2 hi⟩
end
end Rob
end Go.Proofs.YtbgiegecfapmlaaGreatDoor
