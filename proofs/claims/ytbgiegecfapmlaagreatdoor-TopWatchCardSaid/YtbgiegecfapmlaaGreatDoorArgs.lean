/- Slices that came in, opened to lists of what their elements hold; conditions: none. -/
import Derived.Test.YtbgiegecfapmlaaGreatDoorBase
import Derived.ProofKit
import Derived.OpenShut
import Derived.ShutString
import Derived.ChangeOld
import Derived.SizedLaws
import Derived.Deep.Slices
import Derived.Deep.Fields
import Derived.ChangeSame
import Derived.Carry
namespace Go.Proofs.YtbgiegecfapmlaaGreatDoor
open Go.RowKit Go.ChangeShapes Go.WideShapes Go.Deep
set_option linter.unusedVariables false
set_option linter.unusedSimpArgs false

/-- The slice '.slice A n c' reads as the list xs, an element's cells being 'cf x', 'size' of them. -/
def Row {α : Type} (cf : α → List Value) (size : Nat) (w : World) (A : Option Addr) (n : Nat) (xs : List α) : Prop :=
  xs.length = n ∧ n ≤ maxLen ∧ (0 < n → ∃ b off, A = some ⟨b, off, none⟩ ∧ b < w.heap.size ∧
    ∀ i x, xs[i]? = some x → ∀ j v, (cf x)[j]? = some v → w.cell? ⟨b, off + i * size + j, none⟩ = some v)

theorem list_of {α : Type} {p : Nat → α → Prop} (n : Nat) (h : ∀ i, i < n → ∃ x, p i x) : ∃ xs : List α, xs.length = n ∧ ∀ i x, xs[i]? = some x → p i x := by
  induction n with
  | zero => exact ⟨[], rfl, fun i x hx => by simp at hx⟩
  | succ n ih =>
    obtain ⟨xs, hl, hx⟩ := ih (fun i hi => h i (by omega))
    obtain ⟨y, hy⟩ := h n (by omega)
    refine ⟨xs ++ [y], by simp [hl], fun i x hi => ?_⟩
    by_cases hlt : i < n
    · rw [List.getElem?_append_left (by omega)] at hi
      exact hx i x hi
    · have hlen := (List.getElem?_eq_some_iff.1 hi).1
      simp [hl] at hlen
      obtain rfl : i = n := by omega
      rw [List.getElem?_append_right (by omega), hl] at hi
      simp at hi
      subst hi
      exact hy

theorem add_add_plain (b off i j : Nat) : ((⟨b, off, none⟩ : Addr).add i).add j = ⟨b, off + i + j, none⟩ := by
  unfold Addr.add
  by_cases hi : i = 0 <;> by_cases hj : j = 0 <;> simp [hi, hj]

section
variable {H : Type} {enc : TypeId × Value → H} {P : Program} {w : World} {base : Nat} {spare : Nat → Bool} {held : Bool} {α : Type}
theorem open_row (cf : α → List Value) (size : Nat) (hsz : 0 < size) {t e : TypeId} {fuel : Nat} {A : Option Addr} {n c : Nat} {x : DataW H × List MemPlace} (ht : P.underlying t = some (.slice e)) (hC : P.cellsOf e = size)
    (hel : ∀ m cs' y, DataW.trod enc P w base spare held m e cs' = some y → ∃ x : α, cs' = cf x) (h : DataW.trod enc P w base spare held fuel t [.slice A n c] = some x) : ∃ xs : List α, Row cf size w A n xs := by
  rcases open_slice ht h with ⟨hcs, _⟩ | ⟨a, len, cap, m, k, D, Pl, hcs, hb, hl, hm, hmm, hx, hi⟩
  · simp at hcs
    obtain ⟨rfl, rfl, rfl⟩ := hcs
    exact ⟨[], rfl, by omega, fun h => absurd h (by omega)⟩
  · simp at hcs
    obtain ⟨rfl, rfl, rfl⟩ := hcs
    have hnm : n ≤ m := by rw [hmm]; split <;> omega
    rw [hC] at hi
    obtain ⟨b, off, sp⟩ := a
    obtain ⟨xs, hxl, hxs⟩ := list_of (p := fun i x => w.cells? base ((⟨b, off, sp⟩ : Addr).add (i * size)) size = some (cf x)) n (fun i hin => by
      obtain ⟨cs', h1, h2⟩ := hi i (by omega)
      obtain ⟨y, rfl⟩ := hel _ _ _ h2
      exact ⟨y, h1⟩)
    refine ⟨xs, hxl, by omega, fun hn => ?_⟩
    have hsp : sp = none ∧ b < w.heap.size := by
      have h0 : xs[0]? = some (xs[0]'(by omega)) := List.getElem?_eq_getElem (by omega)
      obtain ⟨_, hlen, hat⟩ := World.cells?_some (hxs 0 _ h0)
      have h1 := hat 0 hsz
      have e : ((⟨b, off, sp⟩ : Addr).add (0 * size)).add 0 = ⟨b, off, sp⟩ := by simp [Addr.add]
      rw [e] at h1
      have h2 : (cf (xs[0]'(by omega)))[0]? = some ((cf (xs[0]'(by omega)))[0]'(by omega)) := List.getElem?_eq_getElem (by omega)
      rw [h2] at h1
      refine ⟨?_, World.block_lt_of_cell? w _ h1⟩
      cases sp with
      | none => rfl
      | some _ =>
        unfold World.cell? at h1
        split at h1 <;> simp at h1
    obtain ⟨rfl, hbl⟩ := hsp
    refine ⟨b, off, rfl, hbl, fun i x hx j v hv => ?_⟩
    obtain ⟨_, hlen, hat⟩ := World.cells?_some (hxs i x hx)
    have hj : j < size := by have := (List.getElem?_eq_some_iff.1 hv).1; omega
    have := hat j hj
    rw [add_add_plain] at this
    rw [this, hv]
theorem el_bool {e : TypeId} (he : P.underlying e = some .bool) : ∀ m cs' y, DataW.trod enc P w base spare held m e cs' = some y → ∃ x : Bool, cs' = [.bool x] := fun m cs' y h => by
  obtain ⟨b, hb, _⟩ := DataW.trod_bool he h
  exact ⟨b, hb⟩
theorem el_string {e : TypeId} (he : P.underlying e = some .string) : ∀ m cs' y, DataW.trod enc P w base spare held m e cs' = some y → ∃ x : {s : ByteArray // s.size ≤ maxLen}, cs' = [.string x.1] := fun m cs' y h => by
  obtain ⟨b, hb, _, hs⟩ := DataW.trod_string he h
  exact ⟨⟨b, hs⟩, hb⟩
theorem el_int {e : TypeId} {k : IntKind} (he : P.underlying e = some (.int k)) : ∀ m cs' y, DataW.trod enc P w base spare held m e cs' = some y → ∃ x : {n : Int // (Lit.int k n).wf = true}, cs' = [.int k x.1] := fun m cs' y h => by
  obtain ⟨b, hb, _, hs⟩ := DataW.trod_int he h
  exact ⟨⟨b, hs⟩, hb⟩
end
theorem wf_i64 {n : Int} (h : (Lit.int .i64 n).wf = true) : -9223372036854775808 ≤ n ∧ n ≤ 9223372036854775807 := by
  simp [Lit.wf, IntKind.min, IntKind.max, IntKind.signed, IntKind.bits] at h
  omega
theorem Row.at_ {α : Type} {cf : α → List Value} {size : Nat} {w wr : World} {A : Option Addr} {n : Nat} {xs : List α} (h : Row cf size w A n xs) (hb : Below w.heap.size w wr) {k : Nat} (hk : k < n) :
    ∃ b off x, A = some ⟨b, off, none⟩ ∧ xs[k]? = some x ∧ b < w.heap.size ∧ ∀ j v, (cf x)[j]? = some v → wr.cell? ⟨b, off + k * size + j, none⟩ = some v := by
  obtain ⟨b, off, hA, hlt, hc⟩ := h.2.2 (by omega)
  have hl := h.1
  refine ⟨b, off, xs[k]'(by omega), hA, List.getElem?_eq_getElem (by omega), hlt, fun j v hv => ?_⟩
  have := World.cell?_of_block (a := ⟨b, off + k * size + j, none⟩) (hb.block b hlt)
  rw [this]
  exact hc k _ (List.getElem?_eq_getElem (by omega)) j v hv
/-- .. of elements of one cell. -/
theorem Row.at1 {α : Type} {f : α → Value} {w wr : World} {A : Option Addr} {n : Nat} {xs : List α} (h : Row (fun x => [f x]) 1 w A n xs) (hb : Below w.heap.size w wr) {k : Nat} (hk : k < n) :
    ∃ b off x, A = some ⟨b, off, none⟩ ∧ xs[k]? = some x ∧ b < w.heap.size ∧ wr.cell? ⟨b, off + k, none⟩ = some (f x) := by
  obtain ⟨b, off, x, hA, hx, hlt, hc⟩ := h.at_ hb hk
  have := hc 0 (f x) rfl
  simp only [Nat.mul_one, Nat.add_zero] at this
  exact ⟨b, off, x, hA, hx, hlt, this⟩
end Go.Proofs.YtbgiegecfapmlaaGreatDoor
