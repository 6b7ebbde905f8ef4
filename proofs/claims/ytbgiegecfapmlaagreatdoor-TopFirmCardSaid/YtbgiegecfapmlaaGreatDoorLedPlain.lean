/- Rows of a ledger: what was earned, what was lost, by whom, till when, who earned the most; conditions: none. -/
import Derived.Test.YtbgiegecfapmlaaGreatDoorBase
import Derived.Laws.Strings
import GoSem.Op.String
namespace Go.Proofs.YtbgiegecfapmlaaGreatDoor
set_option linter.unusedVariables false
set_option linter.unusedSimpArgs false
/-- A row: its tick, its name, its value (a loss: less than nothing, or nothing). -/
structure LRow where
  t : Int
  n : ByteArray
  v : Int
namespace Led
theorem bytes_inj {a b : ByteArray} (h : a.toList = b.toList) : a = b := by
  rw [ByteArray.toList_eq, ByteArray.toList_eq] at h
  cases a; cases b
  simp only [ByteArray.mk.injEq]
  exact Array.toList_inj.1 h
theorem beq_dec (a b : ByteArray) : (a.toList == b.toList) = decide (a = b) := by
  by_cases h : a = b
  · subst h; simp
  · have : a.toList ≠ b.toList := fun e => h (bytes_inj e)
    simp [h, this]
theorem eq_nil_or_snoc {α : Type} (xs : List α) : xs = [] ∨ ∃ ys y, xs = ys ++ [y] := by
  by_cases h : xs = []
  · exact .inl h
  · exact .inr ⟨xs.dropLast, xs.getLast h, (List.dropLast_concat_getLast h).symm⟩
def pos (v : Int) : Int := if 0 < v then v else 0
def neg (v : Int) : Int := if 0 < v then 0 else -v
theorem pos_nn (v : Int) : 0 ≤ pos v := by unfold pos; split <;> omega
theorem neg_nn (v : Int) : 0 ≤ neg v := by unfold neg; split <;> omega
theorem pos_neg (v : Int) : pos v - neg v = v := by unfold pos neg; split <;> omega
theorem pos_of {v : Int} (h : 0 ≤ v) : pos v = v ∧ neg v = 0 := by unfold pos neg; constructor <;> split <;> omega
theorem neg_of {v : Int} (h : 0 ≤ v) : pos (-v) = 0 ∧ neg (-v) = v := by unfold pos neg; constructor <;> split <;> omega
def sumBy (f : LRow → Int) : List LRow → Int
  | [] => 0
  | x :: xs => f x + sumBy f xs
theorem sumBy_append (f : LRow → Int) (xs ys : List LRow) : sumBy f (xs ++ ys) = sumBy f xs + sumBy f ys := by
  induction xs with
  | nil => simp [sumBy]
  | cons x xs ih => simp only [List.cons_append, sumBy, ih]; omega
theorem sumBy_snoc (f : LRow → Int) (xs : List LRow) (x : LRow) : sumBy f (xs ++ [x]) = sumBy f xs + f x := by
  rw [sumBy_append]; simp [sumBy]
theorem sumBy_le {f g : LRow → Int} (xs : List LRow) (h : ∀ x, f x ≤ g x) : sumBy f xs ≤ sumBy g xs := by
  induction xs with
  | nil => exact Int.le_refl _
  | cons x xs ih => have := h x; simp only [sumBy]; omega
theorem sumBy_nn {f : LRow → Int} (xs : List LRow) (h : ∀ x, 0 ≤ f x) : 0 ≤ sumBy f xs := by
  induction xs with
  | nil => exact Int.le_refl _
  | cons x xs ih => have := h x; simp only [sumBy]; omega
theorem sumBy_take {f : LRow → Int} (xs : List LRow) (k : Nat) (h : ∀ x, 0 ≤ f x) : sumBy f (xs.take k) ≤ sumBy f xs := by
  have h1 := sumBy_append f (xs.take k) (xs.drop k)
  rw [List.take_append_drop] at h1
  have := sumBy_nn (f := f) (xs.drop k) h
  omega
theorem sumBy_zero {f : LRow → Int} (xs : List LRow) (h : ∀ x ∈ xs, f x = 0) : sumBy f xs = 0 := by
  induction xs with
  | nil => rfl
  | cons x xs ih =>
    simp only [sumBy]
    rw [h x (List.mem_cons_self ..), ih fun y hy => h y (List.mem_cons_of_mem _ hy)]; rfl
theorem sumBy_congr {f g : LRow → Int} (xs : List LRow) (h : ∀ x ∈ xs, f x = g x) : sumBy f xs = sumBy g xs := by
  induction xs with
  | nil => rfl
  | cons x xs ih =>
    simp only [sumBy]
    rw [h x (List.mem_cons_self ..), ih fun y hy => h y (List.mem_cons_of_mem _ hy)]
theorem sumBy_sub {f g h : LRow → Int} (xs : List LRow) (e : ∀ x, f x = g x - h x) : sumBy f xs = sumBy g xs - sumBy h xs := by
  induction xs with
  | nil => rfl
  | cons x xs ih => simp only [sumBy]; rw [ih, e]; omega
theorem sumBy_add {f g h : LRow → Int} (xs : List LRow) (e : ∀ x, f x = g x + h x) : sumBy f xs = sumBy g xs + sumBy h xs := by
  induction xs with
  | nil => rfl
  | cons x xs ih => simp only [sumBy]; rw [ih, e]; omega
theorem sumBy_next {f : LRow → Int} {xs : List LRow} {k : Nat} {x : LRow} (h : xs[k]? = some x) : sumBy f (xs.take (k + 1)) = sumBy f (xs.take k) + f x := by
  rw [take_next h, sumBy_snoc]
def earn (xs : List LRow) : Int := sumBy (fun r => pos r.v) xs
def loss (xs : List LRow) : Int := sumBy (fun r => neg r.v) xs
def earnOf (xs : List LRow) (n : ByteArray) : Int := sumBy (fun r => if r.n = n then pos r.v else 0) xs
def lossOf (xs : List LRow) (n : ByteArray) : Int := sumBy (fun r => if r.n = n then neg r.v else 0) xs
def till (xs : List LRow) (t : Int) : Int := sumBy (fun r => if r.t ≤ t then r.v else 0) xs
theorem earn_nn (xs : List LRow) : 0 ≤ earn xs := sumBy_nn _ fun _ => pos_nn _
theorem loss_nn (xs : List LRow) : 0 ≤ loss xs := sumBy_nn _ fun _ => neg_nn _
theorem earnOf_nn (xs : List LRow) (n : ByteArray) : 0 ≤ earnOf xs n := sumBy_nn _ fun _ => by split; exact pos_nn _; exact Int.le_refl _
theorem lossOf_nn (xs : List LRow) (n : ByteArray) : 0 ≤ lossOf xs n := sumBy_nn _ fun _ => by split; exact neg_nn _; exact Int.le_refl _
theorem earnOf_le (xs : List LRow) (n : ByteArray) : earnOf xs n ≤ earn xs := sumBy_le _ fun x => by split; exact Int.le_refl _; exact pos_nn _
theorem lossOf_le (xs : List LRow) (n : ByteArray) : lossOf xs n ≤ loss xs := sumBy_le _ fun x => by split; exact Int.le_refl _; exact neg_nn _
theorem till_bd (xs : List LRow) (t : Int) : -loss xs ≤ till xs t ∧ till xs t ≤ earn xs := by
  have h1 : till xs t = sumBy (fun r => if r.t ≤ t then pos r.v else 0) xs - sumBy (fun r => if r.t ≤ t then neg r.v else 0) xs := sumBy_sub xs fun x => by
    have := pos_neg x.v
    split <;> omega
  have h2 : sumBy (fun r => if r.t ≤ t then pos r.v else 0) xs ≤ earn xs := sumBy_le _ fun x => by split; exact Int.le_refl _; exact pos_nn _
  have h3 : sumBy (fun r => if r.t ≤ t then neg r.v else 0) xs ≤ loss xs := sumBy_le _ fun x => by split; exact Int.le_refl _; exact neg_nn _
  have h4 : 0 ≤ sumBy (fun r => if r.t ≤ t then pos r.v else 0) xs := sumBy_nn _ fun x => by split; exact pos_nn _; exact Int.le_refl _
  have h5 : 0 ≤ sumBy (fun r => if r.t ≤ t then neg r.v else 0) xs := sumBy_nn _ fun x => by split; exact neg_nn _; exact Int.le_refl _
  omega
theorem earn_take (xs : List LRow) (k : Nat) : earn (xs.take k) ≤ earn xs := sumBy_take _ _ fun _ => pos_nn _
theorem loss_take (xs : List LRow) (k : Nat) : loss (xs.take k) ≤ loss xs := sumBy_take _ _ fun _ => neg_nn _
theorem earn_snoc (xs : List LRow) (x : LRow) : earn (xs ++ [x]) = earn xs + pos x.v := sumBy_snoc _ _ _
theorem loss_snoc (xs : List LRow) (x : LRow) : loss (xs ++ [x]) = loss xs + neg x.v := sumBy_snoc _ _ _
/-- Is the last row behind a tick? -/
def late (xs : List LRow) (t : Int) : Bool := match xs.getLast? with
  | some r => decide (t < r.t)
  | none => false
/-- May a row be added? -/
def may (xs : List LRow) (t v all : Int) : Int :=
  if t < 0 ∨ v < 0 then 1 else if late xs t = true then 10 else if 4611686018427387904 - all < v then 8 else 0
def add (xs : List LRow) (t : Int) (n : ByteArray) (v : Int) (e : Bool) : Int × List LRow :=
  if may xs t v (if e then earn xs else loss xs) = 0 then (0, xs ++ [⟨t, n, if e then v else -v⟩]) else (may xs t v (if e then earn xs else loss xs), xs)
theorem may_ok {xs : List LRow} {t v all : Int} (h : may xs t v all = 0) : 0 ≤ t ∧ 0 ≤ v ∧ late xs t = false ∧ v ≤ 4611686018427387904 - all := by
  unfold may at h
  by_cases h1 : t < 0 ∨ v < 0
  · rw [if_pos h1] at h; cases h
  · rw [if_neg h1] at h
    by_cases h2 : late xs t = true
    · rw [if_pos h2] at h; cases h
    · rw [if_neg h2] at h
      by_cases h3 : 4611686018427387904 - all < v
      · rw [if_pos h3] at h; cases h
      · exact ⟨by omega, by omega, by simpa using h2, by omega⟩
/-- What is true of all rows that were added. -/
structure Good (xs : List LRow) : Prop where
  each : ∀ r ∈ xs, 0 ≤ r.t ∧ r.t ≤ 9223372036854775807 ∧ r.n.size ≤ maxLen
  e : earn xs ≤ 4611686018427387904
  l : loss xs ≤ 4611686018427387904
theorem Good.nil : Good [] := ⟨(fun r hr => nomatch hr), by decide, by decide⟩
theorem Good.add {xs : List LRow} (h : Good xs) (t : Int) (n : ByteArray) (v : Int) (e : Bool) (ht : t ≤ 9223372036854775807) (hn : n.size ≤ maxLen) : Good (Led.add xs t n v e).2 := by
  unfold Led.add
  by_cases hm : may xs t v (if e then earn xs else loss xs) = 0
  · rw [if_pos hm]
    obtain ⟨h1, h2, _, h4⟩ := may_ok hm
    refine ⟨?_, ?_, ?_⟩
    · intro r hr
      rcases List.mem_append.1 hr with hr | hr
      · exact h.each r hr
      · simp at hr; subst hr; exact ⟨h1, ht, hn⟩
    · show earn (xs ++ [_]) ≤ _
      rw [earn_snoc]
      have := h.e
      cases e
      · have := (neg_of h2).1; simp only [Bool.false_eq_true, if_false]; omega
      · have := (pos_of h2).1; simp only [if_true] at h4 ⊢; omega
    · show loss (xs ++ [_]) ≤ _
      rw [loss_snoc]
      have := h.l
      cases e
      · have := (neg_of h2).2; simp only [Bool.false_eq_true, if_false] at h4 ⊢; omega
      · have := (pos_of h2).2; simp only [if_true] at h4 ⊢; omega
  · rw [if_neg hm]; exact h
theorem add_len (xs : List LRow) (t : Int) (n : ByteArray) (v : Int) (e : Bool) : (add xs t n v e).2.length ≤ xs.length + 1 := by
  unfold add
  by_cases h : may xs t v (if e then earn xs else loss xs) = 0
  · rw [if_pos h]; simp
  · rw [if_neg h]; exact Nat.le_succ _
/-- The order of names. -/
def lt (a b : ByteArray) : Bool := Op.bytesLess a.toList b.toList
theorem bl_irr : ∀ x : List UInt8, Op.bytesLess x x = false
  | [] => rfl
  | a :: x => by simp [Op.bytesLess, bl_irr x]
theorem bl_tri : ∀ x y : List UInt8, Op.bytesLess x y = false → Op.bytesLess y x = false → x = y
  | [], [], _, _ => rfl
  | [], b :: y, h, _ => by simp [Op.bytesLess] at h
  | a :: x, [], _, h => by simp [Op.bytesLess] at h
  | a :: x, b :: y, h, k => by
    simp [Op.bytesLess] at h k
    have hab : a = b := UInt8.le_antisymm k.1 h.1
    subst hab
    rw [bl_tri x y (h.2 rfl) (k.2 rfl)]
theorem bl_trans : ∀ x y z : List UInt8, Op.bytesLess x y = true → Op.bytesLess y z = true → Op.bytesLess x z = true
  | _, [], _, h, _ => by simp [Op.bytesLess] at h
  | _, _ :: _, [], _, h => by simp [Op.bytesLess] at h
  | [], _ :: _, _ :: _, _, _ => rfl
  | a :: x, b :: y, c :: z, h, k => by
    simp [Op.bytesLess] at h k ⊢
    rcases h with h | ⟨h1, h2⟩
    · rcases k with k | ⟨k1, k2⟩
      · exact .inl (UInt8.lt_trans h k)
      · subst k1; exact .inl h
    · subst h1
      rcases k with k | ⟨k1, k2⟩
      · exact .inl k
      · exact .inr ⟨k1, bl_trans x y z h2 k2⟩
theorem lt_irr (a : ByteArray) : lt a a = false := bl_irr _
theorem lt_tri {a b : ByteArray} (h : lt a b = false) (k : lt b a = false) : a = b := bytes_inj (bl_tri _ _ h k)
theorem lt_trans {a b c : ByteArray} (h : lt a b = true) (k : lt b c = true) : lt a c = true := bl_trans _ _ _ h k
/-- Of the names in D, b has the most, m; of those that have as much the least; none has anything: the empty name, and nothing. -/
def Best (f : ByteArray → Int) (D : ByteArray → Prop) (b : ByteArray) (m : Int) : Prop :=
  (m = 0 ∧ b = ⟨#[]⟩ ∧ ∀ n, D n → f n ≤ 0) ∨ (0 < m ∧ f b = m ∧ ∀ n, D n → f n < m ∨ (f n = m ∧ lt n b = false))
theorem Best.start (f : ByteArray → Int) (D : ByteArray → Prop) (h : ∀ n, ¬ D n) : Best f D ⟨#[]⟩ 0 := .inl ⟨rfl, rfl, fun n hn => absurd hn (h n)⟩
theorem Best.nn {f : ByteArray → Int} {D : ByteArray → Prop} {b : ByteArray} {m : Int} (h : Best f D b m) : 0 ≤ m := by rcases h with h | h <;> omega
theorem Best.up {f : ByteArray → Int} {D D' : ByteArray → Prop} {b : ByteArray} {m : Int} (h : Best f D b m) {n : ByteArray} (hD : ∀ x, D' x → D x ∨ x = n) (hu : m < f n ∨ (f n = m ∧ 0 < m ∧ lt n b = true)) : Best f D' n (f n) := by
  have h0 := h.nn
  refine .inr ⟨by omega, rfl, fun x hx => ?_⟩
  rcases hD x hx with hx | rfl
  · rcases h with ⟨rfl, _, h⟩ | ⟨h1, h2, h3⟩
    · have := h x hx
      rcases hu with hu | hu
      · exact .inl (by omega)
      · omega
    · rcases h3 x hx with h4 | ⟨h4, h5⟩
      · exact .inl (by omega)
      · rcases hu with hu | ⟨hu, _, hl⟩
        · exact .inl (by omega)
        · refine .inr ⟨by omega, ?_⟩
          cases hxn : lt x n with
          | false => rfl
          | true => rw [lt_trans hxn hl] at h5; cases h5
  · exact .inr ⟨rfl, lt_irr _⟩
theorem Best.stay {f : ByteArray → Int} {D D' : ByteArray → Prop} {b : ByteArray} {m : Int} (h : Best f D b m) {n : ByteArray} (hD : ∀ x, D' x → D x ∨ x = n) (hu : ¬ (m < f n ∨ (f n = m ∧ 0 < m ∧ lt n b = true))) : Best f D' b m := by
  rcases h with ⟨h1, h2, h⟩ | ⟨h1, h2, h3⟩
  · refine .inl ⟨h1, h2, fun x hx => ?_⟩
    rcases hD x hx with hx | rfl
    · exact h x hx
    · omega
  · refine .inr ⟨h1, h2, fun x hx => ?_⟩
    rcases hD x hx with hx | rfl
    · exact h3 x hx
    · by_cases he : f x = m
      · refine .inr ⟨he, ?_⟩
        cases hl : lt x b with
        | false => rfl
        | true => exact absurd (.inr ⟨he, h1, hl⟩) hu
      · exact .inl (by omega)
theorem Best.same {f : ByteArray → Int} {D D' : ByteArray → Prop} {b b' : ByteArray} {m m' : Int} (h : Best f D b m) (h' : Best f D' b' m') (hD : ∀ n, 0 < f n → D n) (hD' : ∀ n, 0 < f n → D' n) : b = b' ∧ m = m' := by
  rcases h with ⟨h1, h2, h3⟩ | ⟨h1, h2, h3⟩ <;> rcases h' with ⟨k1, k2, k3⟩ | ⟨k1, k2, k3⟩
  · exact ⟨h2.trans k2.symm, h1.trans k1.symm⟩
  · have := h3 b' (hD b' (by omega)); omega
  · have := k3 b (hD' b (by omega)); omega
  · have a1 := h3 b' (hD b' (by omega))
    have a2 := k3 b (hD' b (by omega))
    have hm : m = m' := by omega
    subst hm
    have b1 : lt b' b = false := by
      rcases a1 with a1 | a1
      · omega
      · exact a1.2
    have b2 : lt b b' = false := by
      rcases a2 with a2 | a2
      · omega
      · exact a2.2
    exact ⟨lt_tri b2 b1, rfl⟩
theorem Best.grow {f : ByteArray → Int} {D D' : ByteArray → Prop} {b : ByteArray} {m : Int} (h : Best f D b m) (hD : ∀ n, D' n → 0 < f n → D n) : Best f D' b m := by
  rcases h with ⟨h1, h2, h3⟩ | ⟨h1, h2, h3⟩
  · refine .inl ⟨h1, h2, fun n hn => ?_⟩
    by_cases hp : 0 < f n
    · exact h3 n (hD n hn hp)
    · omega
  · refine .inr ⟨h1, h2, fun n hn => ?_⟩
    by_cases hp : 0 < f n
    · exact h3 n (hD n hn hp)
    · exact .inl (by omega)
/-- Who earned the most of all. -/
def Top (xs : List LRow) (b : ByteArray) (m : Int) : Prop := Best (earnOf xs) (fun _ => True) b m
theorem Top.same {xs : List LRow} {b b' : ByteArray} {m m' : Int} (h : Top xs b m) (h' : Top xs b' m') : b = b' ∧ m = m' := Best.same h h' (fun _ _ => trivial) (fun _ _ => trivial)
theorem name_of_earn {xs : List LRow} {n : ByteArray} (h : 0 < earnOf xs n) : ∃ r ∈ xs, r.n = n := by
  apply Classical.byContradiction
  intro hc
  have : earnOf xs n = 0 := sumBy_zero xs fun x hx => by rw [if_neg fun e => hc ⟨x, hx, e⟩]
  omega
end Led
end Go.Proofs.YtbgiegecfapmlaaGreatDoor
