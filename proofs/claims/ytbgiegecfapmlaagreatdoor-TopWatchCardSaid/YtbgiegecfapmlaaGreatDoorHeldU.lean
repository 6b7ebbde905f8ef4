/- A drawn region whose loads come ahead of its last stores: the condition on the world is asked only till operation U has come up; conditions: none. -/
import Derived.Deep.RegionHeld
namespace Go.Proofs.YtbgiegecfapmlaaGreatDoor
set_option linter.unusedVariables false
section
variable {P : Program} {ops : Array Oper} {Q : Exit → Act → World → Prop} {md : Region.Mode} {S : World → Prop} {U : Nat}
/-- Whatever order is picked; S holds behind every operation as long as U has not come up. -/
def wpU (P : Program) (md : Region.Mode) (ops : Array Oper) (Q : Exit → Act → World → Prop) (S : World → Prop) (U : Nat) : Nat → Array Bool → Act → World → Prop
  | 0, l, a, w => Region.ready md ops l = [] ∧ Q .normal a w
  | f + 1, l, a, w => (Region.ready md ops l = [] → Q .normal a w) ∧
      ∀ i ∈ Region.ready md ops l, wpOp P ops Q i (fun a' w' => ((l.setIfInBounds i true).getD U true = false → S w') ∧ wpU P md ops Q S U f (l.setIfInBounds i true) a' w') a w
theorem wpU_any : ∀ (f : Nat) (l : Array Bool) (a : Act) (w : World), wpU P md ops Q S U f l a w → wpAny P md ops Q f l a w
  | 0, _, _, _, h => h
  | f + 1, _, _, _, h => ⟨h.1, fun i hi => wpOp_mono (fun a' w' h' => wpU_any f _ a' w' h'.2) (h.2 i hi)⟩
theorem wpU_first {i : Nat} {oi : Oper} {v : Value} {S' : World → Prop} (hi : ops[i]? = some oi) (hsel : ∀ (j : Nat) (o : Oper) cs b, ops[j]? = some o → o.op ≠ .select cs b)
    (hQ : ∀ c a w, Q (.panic c) (a.put oi.dst v) w → Q (.panic c) a w) (hiU : i ≠ U) :
    ∀ (f : Nat) (l : Array Bool) (a : Act) (w : World),
      (∀ j oj, ops[j]? = some oj → j ≠ i → l.getD j true = false → (∀ e ∈ oj.after, Region.binds md e = true → e.on ≠ i) → oi.apart ops oj = true) →
      i ∈ Region.ready md ops l → YieldsIf P ops S' oi v a → S' w →
      ((∀ w, S' w) ∨ ((∀ w, S w → S' w) ∧ l.getD U true = false ∧ ∃ oU, ops[U]? = some oU ∧ ∃ e ∈ oU.after, Region.binds md e = true ∧ e.on = i)) →
      (l.getD U true = false → S w) →
      wpU P md ops Q S U f (l.setIfInBounds i true) (a.put oi.dst v) w → wpU P md ops Q S U (f + 1) l a w := by
  intro f
  induction f with
  | zero =>
    intro l a w _ hr hy hS hw hT H
    refine ⟨fun h => (by rw [h] at hr; cases hr), fun j hj => ?_⟩
    by_cases hji : j = i
    · subst hji; exact hy.wpOp hi hS ⟨fun h => hT (by rwa [getD_set_ne true hiU] at h), H⟩
    · have := ready_mono hj hji
      rw [H.1] at this
      cases this
  | succ f ih =>
    intro l a w hfree hr hy hS hw hT H
    refine ⟨fun h => (by rw [h] at hr; cases hr), fun j hj => ?_⟩
    by_cases hji : j = i
    · subst hji; exact hy.wpOp hi hS ⟨fun h => hT (by rwa [getD_set_ne true hiU] at h), H⟩
    · have h1 := H.2 j (ready_mono hj hji)
      obtain ⟨hjun, oj, hoj, hall⟩ := mem_ready.1 hj
      have hnot : ∀ e ∈ oj.after, Region.binds md e = true → e.on ≠ i := fun e he hb heq => by
        have h1 := hall e he hb
        have h0 := (mem_ready.1 hr).1
        rw [heq] at h1
        rcases Nat.lt_or_ge i l.size with h' | h'
        · simp [h'] at h0 h1; rw [h0] at h1; cases h1
        · simp [Array.getElem?_eq_none h'] at h1
      have h2 := wpOp_putIf hoj (hfree j oj hoj hji hjun hnot) (fun cs b => hsel i oi cs b hi) (fun cs b => hsel j oj cs b hoj) hQ hy h1
      have hfree' : ∀ k ok, ops[k]? = some ok → k ≠ i → (l.setIfInBounds j true).getD k true = false →
          (∀ e ∈ ok.after, Region.binds md e = true → e.on ≠ i) → oi.apart ops ok = true := fun k ok hk hki hun hno => by
        refine hfree k ok hk hki ?_ hno
        by_cases hjk : j = k
        · subst hjk; exact hjun
        · rw [getD_set_ne true hjk] at hun; exact hun
      refine wpOp_mono (fun a' w' h3 => ?_) h2
      have hTj : (l.setIfInBounds j true).getD U true = false → S w' := fun h => h3.2.1 (by
        rw [Array.setIfInBounds_comm _ _ (Ne.symm hji), getD_set_ne true hiU]; exact h)
      have hjU : (∃ oU, ops[U]? = some oU ∧ ∃ e ∈ oU.after, Region.binds md e = true ∧ e.on = i) → j ≠ U := by
        rintro ⟨oU, ho, e, he, hb, hei⟩ rfl
        rw [hoj] at ho
        cases ho
        exact hnot e he hb hei
      have hw' : (∀ w, S' w) ∨ ((∀ w, S w → S' w) ∧ (l.setIfInBounds j true).getD U true = false ∧ ∃ oU, ops[U]? = some oU ∧ ∃ e ∈ oU.after, Region.binds md e = true ∧ e.on = i) :=
        hw.imp id fun ⟨x, y, z⟩ => ⟨x, by rw [getD_set_ne true (hjU z)]; exact y, z⟩
      have hS' : S' w' := by
        rcases hw' with h | ⟨x, y, _⟩
        · exact h w'
        · exact x w' (hTj y)
      refine ⟨hTj, ih (l.setIfInBounds j true) a' w' hfree' (ready_mono hr (Ne.symm hji)) h3.1 hS' hw' hTj ?_⟩
      rw [Array.setIfInBounds_comm _ _ hji]
      exact h3.2.2
/-- Take number i first: a load, for which U waits. -/
theorem wpU_load {i : Nat} {oi : Oper} {v : Value} {f : Nat} {l : Array Bool} {a : Act} {w : World} (hi : ops[i]? = some oi)
    (hs : Region.noSelect ops = true) (hf : Region.free md ops l i = true) (hr : (Region.ready md ops l).contains i = true)
    (hQ : ∀ c a w, Q (.panic c) (a.put oi.dst v) w → Q (.panic c) a w) (hiU : i ≠ U) (hU : l.getD U true = false)
    (hb : (match ops[U]? with | some o => o.after.any (fun e => Region.binds md e && e.on == i) | none => false) = true)
    (hy : YieldsIf P ops S oi v a) (hS : S w)
    (h : wpU P md ops Q S U f (l.setIfInBounds i true) (a.put oi.dst v) w) : wpU P md ops Q S U (f + 1) l a w := by
  refine wpU_first hi (Region.noSelect_spec hs) hQ hiU f l a w (Region.free_spec hi hf) (by simpa using hr) hy hS (.inr ⟨fun _ h => h, hU, ?_⟩) (fun _ => hS) h
  cases ho : ops[U]? with
  | none => rw [ho] at hb; cases hb
  | some o =>
    rw [ho] at hb
    dsimp only at hb
    rw [Array.any_eq_true] at hb
    obtain ⟨k, hk, hb⟩ := hb
    simp only [Bool.and_eq_true, beq_iff_eq] at hb
    exact ⟨o, rfl, o.after[k], by simp, hb.1, hb.2⟩
/-- .. or what yields its value in any world. -/
theorem wpU_take {i : Nat} {oi : Oper} {v : Value} {f : Nat} {l : Array Bool} {a : Act} {w : World} (hi : ops[i]? = some oi)
    (hs : Region.noSelect ops = true) (hf : Region.free md ops l i = true) (hr : (Region.ready md ops l).contains i = true)
    (hQ : ∀ c a w, Q (.panic c) (a.put oi.dst v) w → Q (.panic c) a w) (hiU : i ≠ U) (hT : l.getD U true = false → S w)
    (hy : YieldsIf P ops (fun _ => True) oi v a)
    (h : wpU P md ops Q S U f (l.setIfInBounds i true) (a.put oi.dst v) w) : wpU P md ops Q S U (f + 1) l a w :=
  wpU_first hi (Region.noSelect_spec hs) hQ hiU f l a w (Region.free_spec hi hf) (by simpa using hr) hy trivial (.inl fun _ => trivial) hT h
def AllReadyU (P : Program) (md : Region.Mode) (ops : Array Oper) (Q : Exit → Act → World → Prop) (S : World → Prop) (U : Nat) (f : Nat) (l : Array Bool) (a : Act) (w : World) (rs : List Nat) : Prop :=
  ∀ i ∈ rs, wpOp P ops Q i (fun a' w' => ((l.setIfInBounds i true).getD U true = false → S w') ∧ wpU P md ops Q S U f (l.setIfInBounds i true) a' w') a w
theorem AllReadyU.nil {f : Nat} {l : Array Bool} {a : Act} {w : World} : AllReadyU P md ops Q S U f l a w [] := fun _ h => by cases h
theorem AllReadyU.cons {f : Nat} {l : Array Bool} {a : Act} {w : World} {i : Nat} {o : Oper} {rs : List Nat} (ho : ops[i]? = some o)
    (h : ∀ K' : Act → World → Prop, Shut (∀ a w, ((l.setIfInBounds i true).getD U true = false → S w) → wpU P md ops Q S U f (l.setIfInBounds i true) a w → K' a w) → if Region.wanted o (yielded ops a.tmps) = true then Oper.wp P o a w K' Q else K' (a.put o.dst undef) w)
    (hs : AllReadyU P md ops Q S U f l a w rs) : AllReadyU P md ops Q S U f l a w (i :: rs) := fun j hj => by
  rcases List.mem_cons.1 hj with rfl | hj
  · exact wpOp_step ho (fun K' hK => h K' (fun a w hS hW => hK a w ⟨hS, hW⟩))
  · exact hs j hj
theorem wpU_ready {rs : List Nat} {f : Nat} {l : Array Bool} {a : Act} {w : World} (hr : Region.ready md ops l = rs) (hne : rs ≠ []) (h : AllReadyU P md ops Q S U f l a w rs) : wpU P md ops Q S U (f + 1) l a w :=
  ⟨fun h0 => absurd (hr ▸ h0) hne, hr ▸ h⟩
theorem wpU_done {l : Array Bool} {a : Act} {w : World} (hr : Region.ready md ops l = []) (h : Q .normal a w) : ∀ f, wpU P md ops Q S U f l a w
  | 0 => ⟨hr, h⟩
  | _ + 1 => ⟨fun _ => h, by rw [hr]; simp⟩
theorem wpU_begin {id : Nat} {a : Act} {w : World} (hm : P.follows .mixedOrders = true) (h : wpU P .any ops Q S U ops.size (Array.replicate ops.size false) a w.drew) : (Code.region id ops true).wp P Q a w :=
  wp_region_any hm (wpU_any _ _ _ _ h)
end
end Go.Proofs.YtbgiegecfapmlaaGreatDoor
