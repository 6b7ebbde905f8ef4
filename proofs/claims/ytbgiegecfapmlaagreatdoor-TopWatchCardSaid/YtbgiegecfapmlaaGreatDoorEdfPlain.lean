/- The earliest deadline first, as numbers: when all can be met; conditions: none. -/
namespace Go.Proofs.YtbgiegecfapmlaaGreatDoor
set_option linter.unusedVariables false
namespace Edf
/-- What is left of a job: its deadline, what it needs. -/
structure Lf where
  d : Int
  n : Int
/-- What those need whose deadline is no later. -/
def load (l : List Lf) (d : Int) : Int := (l.filter fun x => decide (x.d ≤ d)).foldr (fun x s => x.n + s) 0
/-- Can all be met? -/
def Ok (now : Int) (l : List Lf) : Prop := ∀ x ∈ l, load l x.d ≤ x.d - now
theorem load_nil (d : Int) : load [] d = 0 := rfl
theorem load_cons (x : Lf) (l : List Lf) (d : Int) : load (x :: l) d = (if x.d ≤ d then x.n else 0) + load l d := by
  unfold load
  rw [List.filter_cons]
  by_cases h : x.d ≤ d
  · simp [h]
  · simp [h]
theorem load_app (a b : List Lf) (d : Int) : load (a ++ b) d = load a d + load b d := by
  induction a with
  | nil => simp [load_nil]
  | cons x a ih => rw [List.cons_append, load_cons, load_cons, ih]; omega
theorem load_perm {a b : List Lf} (h : a.Perm b) (d : Int) : load a d = load b d := by
  induction h with
  | nil => rfl
  | cons x _ ih => rw [load_cons, load_cons, ih]
  | swap x y l => rw [load_cons, load_cons, load_cons, load_cons]; omega
  | trans _ _ ih1 ih2 => rw [ih1, ih2]
theorem load_nonneg (l : List Lf) (h : ∀ x ∈ l, 0 ≤ x.n) (d : Int) : 0 ≤ load l d := by
  induction l with
  | nil => simp [load_nil]
  | cons x l ih =>
    rw [load_cons]
    have h1 := h x (by simp)
    have h2 := ih (fun y hy => h y (by simp [hy]))
    split <;> omega
theorem Ok.perm {now : Int} {a b : List Lf} (h : a.Perm b) (ha : Ok now a) : Ok now b := fun x hx => by
  rw [← load_perm h]
  exact ha x (h.mem_iff.2 hx)
/-- What one alone needs is in the load at its deadline. -/
theorem one_le (l : List Lf) (h : ∀ x ∈ l, 0 ≤ x.n) {x : Lf} (hx : x ∈ l) : x.n ≤ load l x.d := by
  induction l with
  | nil => cases hx
  | cons y l ih =>
    rw [load_cons]
    have h1 := h y (by simp)
    have h2 := load_nonneg l (fun z hz => h z (by simp [hz])) x.d
    rcases List.mem_cons.1 hx with rfl | hx
    · simp; omega
    · have := ih (fun z hz => h z (by simp [hz])) hx
      split <;> omega
/-- The running sums of a row. -/
def sums (now : Int) (acc : Int) : List Lf → Prop
  | [] => True
  | x :: l => acc + x.n ≤ x.d - now ∧ sums now (acc + x.n) l
/-- A row in the order of deadlines. -/
def Sorted : List Lf → Prop
  | [] => True
  | x :: l => (∀ y ∈ l, x.d ≤ y.d) ∧ Sorted l
theorem sums_iff (now : Int) (l : List Lf) (hs : Sorted l) (hn : ∀ x ∈ l, 0 ≤ x.n) : ∀ acc, sums now acc l ↔ ∀ x ∈ l, acc + load l x.d ≤ x.d - now := by
  induction l with
  | nil => intro acc; simp [sums]
  | cons x l ih =>
    intro acc
    have hn' : ∀ y ∈ l, 0 ≤ y.n := fun y hy => hn y (by simp [hy])
    have hx := hn x (by simp)
    simp only [sums]
    rw [ih hs.2 hn']
    constructor
    · rintro ⟨h1, h2⟩ y hy
      rcases List.mem_cons.1 hy with rfl | hy
      · rw [load_cons, if_pos (Int.le_refl _)]
        -- those of alike deadlines
        by_cases hl : ∃ z ∈ l, z.d = y.d
        · obtain ⟨z, hz, hzd⟩ := hl
          have := h2 z hz
          rw [hzd] at this
          omega
        · have : load l y.d = 0 := by
            have hf : l.filter (fun x => decide (x.d ≤ y.d)) = [] := by
              rw [List.filter_eq_nil_iff]
              intro z hz
              have := hs.1 z hz
              simp
              rcases Int.lt_or_eq_of_le this with h | h
              · exact h
              · exact absurd ⟨z, hz, h.symm⟩ hl
            unfold load
            rw [hf]; rfl
          omega
      · rw [load_cons, if_pos (hs.1 y hy)]
        have := h2 y hy
        omega
    · intro h
      refine ⟨?_, fun y hy => ?_⟩
      · have := h x (by simp)
        rw [load_cons, if_pos (Int.le_refl _)] at this
        have := load_nonneg l hn' x.d
        omega
      · have := h y (by simp [hy])
        rw [load_cons, if_pos (hs.1 y hy)] at this
        omega
theorem sums_ok (now : Int) (l : List Lf) (hs : Sorted l) (hn : ∀ x ∈ l, 0 ≤ x.n) : sums now 0 l ↔ Ok now l := by
  rw [sums_iff now l hs hn 0]
  constructor
  · intro h x hx; have := h x hx; omega
  · intro h x hx; have := h x hx; omega
end Edf
end Go.Proofs.YtbgiegecfapmlaaGreatDoor
