/- What package robust makes of jobs, as plain lists; firm jobs alone are never refused; conditions: jobs as chapter 8 asks. -/
import Derived.Test.YtbgiegecfapmlaaGreatDoorEdfPlain
namespace Go.Proofs.YtbgiegecfapmlaaGreatDoor
set_option linter.unusedVariables false
namespace Rob
open Edf
structure J where
  nm : ByteArray
  rel : Int
  dl : Int
  bud : Int
  act : Int
  val : Int
  cln : Int
  hard : Bool
/-- A job's numbers are as chapter 8 asks. -/
structure J.Ok (j : J) : Prop where
  rel : 0 ≤ j.rel
  dl : j.rel < j.dl
  most : j.dl ≤ 10000
  bud : 1 ≤ j.bud ∧ j.bud ≤ 1000
  act : 1 ≤ j.act ∧ j.act ≤ 1000
  val : 0 ≤ j.val ∧ j.val ≤ 1000000
  cln : 0 ≤ j.cln ∧ j.cln ≤ 100
def J.charge (j : J) : Int := j.bud + j.cln
def J.work (j : J) : Int := if j.act ≤ j.bud then j.act else j.bud + j.cln
theorem J.work_le {j : J} (h : j.Ok) : 1 ≤ j.work ∧ j.work ≤ j.charge := by
  have := h.bud; have := h.act; have := h.cln
  unfold J.work J.charge
  split <;> omega
structure St where
  is : List Int
  ran : List Int
  fs : List (Int × Int)
  tr : List Int
  sh : List Int
  ag : List Int
def isAt (s : St) (i : Nat) : Int := s.is.getD i 0
def ranAt (s : St) (i : Nat) : Int := s.ran.getD i 0
def kdAt (s : St) (i : Nat) : Int := (s.fs.getD i (0, 0)).1
def opn (s : St) (i : Nat) (k : Int) : Bool := isAt s i == k && kdAt s i == 0
section
variable (js : List J)
def dlAt (i : Nat) : Int := (js[i]?.map (·.dl)).getD 0
def chAt (i : Nat) : Int := (js[i]?.map (·.charge)).getD 0
def need (s : St) (i : Nat) : Int := chAt js i - ranAt s i
/-- What is left of those that are taken, the first n of them. -/
def lefts (s : St) : Nat → List Lf
  | 0 => []
  | n + 1 => lefts s n ++ if opn s n 1 = true then [⟨dlAt js n, need js s n⟩] else []
def fits (s : St) (now : Int) : Bool := (lefts js s js.length).all fun x => decide (load (lefts js s js.length) x.d ≤ x.d - now)
theorem fits_ok (s : St) (now : Int) : fits js s now = true ↔ Edf.Ok now (lefts js s js.length) := by
  unfold fits Edf.Ok
  simp
theorem lefts_mem (s : St) (n : Nat) (x : Lf) : x ∈ lefts js s n ↔ ∃ i, i < n ∧ opn s i 1 = true ∧ x = ⟨dlAt js i, need js s i⟩ := by
  induction n with
  | zero => simp [lefts]
  | succ n ih =>
    simp only [lefts, List.mem_append, ih]
    constructor
    · rintro (⟨i, h1, h2, h3⟩ | h)
      · exact ⟨i, by omega, h2, h3⟩
      · by_cases hn : opn s n 1 = true
        · rw [if_pos hn] at h
          exact ⟨n, by omega, hn, by simpa using h⟩
        · rw [if_neg hn] at h; cases h
    · rintro ⟨i, h1, h2, h3⟩
      by_cases hi : i = n
      · subst hi
        right
        rw [if_pos h2, h3]
        simp
      · exact .inl ⟨i, by omega, h2, h3⟩
/-- The load of those that are taken, as a sum. -/
def sumTo (f : Nat → Int) : Nat → Int
  | 0 => 0
  | n + 1 => sumTo f n + f n
theorem sumTo_le (f g : Nat → Int) (n : Nat) (h : ∀ i, i < n → f i ≤ g i) : sumTo f n ≤ sumTo g n := by
  induction n with
  | zero => exact Int.le_refl _
  | succ n ih => have := ih (fun i hi => h i (by omega)); have := h n (by omega); simp only [sumTo]; omega
/-- .. less by one somewhere. -/
theorem sumTo_lt (f g : Nat → Int) (n k : Nat) (hk : k < n) (h : ∀ i, i < n → f i ≤ g i) (h1 : f k + 1 ≤ g k) : sumTo f n + 1 ≤ sumTo g n := by
  induction n with
  | zero => omega
  | succ n ih =>
    simp only [sumTo]
    by_cases e : k = n
    · subst e
      have := sumTo_le f g k (fun i hi => h i (by omega))
      omega
    · have := ih (by omega) (fun i hi => h i (by omega))
      have := h n (by omega)
      omega
theorem sumTo_one (f : Nat → Int) (n k : Nat) (hk : k < n) (h : ∀ i, i < n → 0 ≤ f i) : f k ≤ sumTo f n := by
  induction n with
  | zero => omega
  | succ n ih =>
    simp only [sumTo]
    have hn := h n (by omega)
    by_cases e : k = n
    · subst e
      have : 0 ≤ sumTo f k := by
        have := sumTo_le (fun _ => 0) f k (fun i hi => h i (by omega))
        have e0 : ∀ m, sumTo (fun _ => 0) m = 0 := fun m => by
          induction m with
          | zero => rfl
          | succ m ih => simp only [sumTo]; omega
        rw [e0] at this
        exact this
      omega
    · have := ih (by omega) (fun i hi => h i (by omega))
      omega
def term (s : St) (d : Int) (i : Nat) : Int := if opn s i 1 = true ∧ dlAt js i ≤ d then need js s i else 0
theorem load_sum (s : St) (d : Int) (n : Nat) : load (lefts js s n) d = sumTo (term js s d) n := by
  induction n with
  | zero => rfl
  | succ n ih =>
    simp only [lefts, sumTo]
    rw [load_app, ih]
    by_cases hn : opn s n 1 = true
    · rw [if_pos hn, load_cons, load_nil]
      unfold term
      by_cases hd : dlAt js n ≤ d
      · simp [hn, hd]
      · simp [hd]
    · rw [if_neg hn, load_nil]
      unfold term
      simp [hn]
/-- All that are taken can be done in time. -/
def Fit (s : St) (now : Int) : Prop := ∀ i, i < js.length → opn s i 1 = true → sumTo (term js s (dlAt js i)) js.length ≤ dlAt js i - now
theorem fits_iff (s : St) (now : Int) : fits js s now = true ↔ Fit js s now := by
  rw [fits_ok]
  constructor
  · intro h i hi ho
    have := h ⟨dlAt js i, need js s i⟩ ((lefts_mem js s _ _).2 ⟨i, hi, ho, rfl⟩)
    rw [load_sum] at this
    exact this
  · intro h x hx
    obtain ⟨i, hi, ho, rfl⟩ := (lefts_mem js s _ _).1 hx
    rw [load_sum]
    exact h i hi ho
end
end Rob
end Go.Proofs.YtbgiegecfapmlaaGreatDoor
