/- The reference's Arena of the call's own; conditions: at most 1000 places. -/
import Derived.Test.YtpfhogbkbodfjabRefAr3
import Derived.Test.YtpfhogbkbodfjabRefAr4
namespace Go.Proofs.Ytpfhogbkbodfjab
open Go.RowKit
set_option linter.unusedVariables false
set_option linter.unusedSimpArgs false
namespace RefAr
open Ar
/-- The reference's Arena at block p, holding the blocks F. -/
def Is (w : World) (p : Nat) (F : Nat → Prop) (room : Nat) (ps : List Pl) (fr : List Nat) : Prop := ∃ s, At w p s room ps fr ∧ F = Foot p s
section
variable {w w' : World} {p room : Nat} {F S : Nat → Prop} {ps : List Pl} {fr : List Nat}
theorem Is.kept (h : Is w p F room ps fr) (k : Keeps S w w') (hS : ∀ b, F b → ¬ S b) : Is w' p F room ps fr := by
  obtain ⟨s, ha, rfl⟩ := h
  exact ⟨s, ha.kept k hS, rfl⟩
theorem Is.stay (h : Is w p F room ps fr) (k : Keeps (fun _ => False) w w') : Is w' p F room ps fr := h.kept k fun _ _ h => h
theorem Is.lt (h : Is w p F room ps fr) : ∀ b, F b → b < w.heap.size := by
  obtain ⟨s, ha, rfl⟩ := h
  exact ha.lt
end
/-- A new one, of no places. -/
theorem is_new (w : World) (room : Nat) : Is (w.alloc (.cells #[.int .i64 (room : Int), .slice none 0 0, .slice none 0 0, .slice none 0 0, .slice none 0 0] 60)) w.heap.size (· = w.heap.size) room [] [] := by
  refine ⟨⟨none, 0, none, 0, none, 0, none, 0⟩, ⟨?_, World.ownsRow_nil _ _ _ _, World.ownsRow_nil _ _ _ _, World.ownsRow_nil _ _ _ _, Has.nil _ _ _⟩, ?_⟩
  · exact Blk.new w 60 [.int .i64 (room : Int), .slice none 0 0, .slice none 0 0, .slice none 0 0, .slice none 0 0]
  · funext b
    apply propext
    constructor
    · rintro rfl; exact .inl rfl
    · rintro (h | h | h | h | h)
      · exact h
      all_goals cases h
section
variable {w : World} {p room : Nat} {F : Nat → Prop} {ps : List Pl} {fr : List Nat}
theorem put_new_i {n : Nat} (v : ByteArray) (h : Is w p F room ps []) (hn : ps.length = n) (hr : n < room) (hl : room ≤ 1000) :
    Calls Try.prog 37 #[.pointer (some ⟨p, 0, none⟩), .string v] w fun e w' => e = .returned (.tuple #[.int .i64 (n : Int), .int .i64 1, .int .i64 0]) ∧ (∃ F', Is w' p F' room (ps ++ [⟨v, 1, true⟩]) [] ∧ ∀ q, F' q → F q ∨ w.heap.size ≤ q) ∧ Keeps F w w' := by
  subst hn
  obtain ⟨s, ha, rfl⟩ := h
  refine (put_new p s room ps v w ha hr hl).mono ?_
  rintro e w' ⟨he, ⟨s', ha', hf⟩, k⟩
  exact ⟨he, ⟨_, ⟨s', ha', rfl⟩, hf⟩, k⟩
theorem put_full_i (v : ByteArray) (h : Is w p F room ps []) (hr : room = ps.length) (hl : ps.length ≤ 1000) :
    Calls Try.prog 37 #[.pointer (some ⟨p, 0, none⟩), .string v] w fun e w' => e = .returned (.tuple #[.int .i64 0, .int .i64 0, .int .i64 6]) ∧ Keeps (fun _ => False) w w' := by
  obtain ⟨s, ha, rfl⟩ := h
  exact put_full p s room ps v w ha hr hl
theorem put_free_i (v : ByteArray) (i : Nat) (x : Pl) (h : Is w p F room ps (fr ++ [i])) (hx : ps[i]? = some x) (hg : 0 ≤ x.g ∧ x.g ≤ 1000000) (hl : ps.length ≤ 1000) (hf : fr.length ≤ 1000) :
    Calls Try.prog 37 #[.pointer (some ⟨p, 0, none⟩), .string v] w fun e w' => e = .returned (.tuple #[.int .i64 (i : Int), .int .i64 (x.g + 1), .int .i64 0]) ∧ (∃ F', Is w' p F' room (ps.set i ⟨v, x.g + 1, true⟩) fr ∧ ∀ q, F' q → F q ∨ w.heap.size ≤ q) ∧ Keeps F w w' := by
  obtain ⟨s, ha, rfl⟩ := h
  refine (put_free p s room ps fr i x v w ha hx hg hl hf).mono ?_
  rintro e w' ⟨he, ⟨B, b, ha', hb⟩, k⟩
  refine ⟨he, ⟨_, ⟨_, ha', rfl⟩, fun q hq => .inl ?_⟩, k⟩
  rcases hq with h | h | h | h | h
  · exact .inl h
  · exact .inr (.inl h)
  · exact .inr (.inr (.inl h))
  · exact .inr (.inr (.inr (.inl h)))
  · exact .inr (.inr (.inr (.inr (hb.symm.trans h))))
theorem get_ok_i (i : Nat) (g : Int) (x : Pl) (h : Is w p F room ps fr) (hr : room ≤ 1000) (hl : ps.length ≤ 1000) (hc : code room ps i g = 0) (hx : ps[i]? = some x) :
    Calls Try.prog 39 #[.pointer (some ⟨p, 0, none⟩), .int .i64 (i : Int), .int .i64 g] w fun e w' => e = .returned (.tuple #[.string x.v, .int .i64 0]) ∧ Keeps (fun _ => False) w w' := by
  obtain ⟨s, ha, rfl⟩ := h
  exact get_ok p s room ps fr i g x w ha hr hl hc hx
theorem get_no_i (sl g : Int) (h : Is w p F room ps fr) (hr : room ≤ 1000) (hl : ps.length ≤ 1000) (r : Int) (hc : code room ps sl g = r) (hr0 : r ≠ 0) :
    Calls Try.prog 39 #[.pointer (some ⟨p, 0, none⟩), .int .i64 sl, .int .i64 g] w fun e w' => e = .returned (.tuple #[.string ⟨#[]⟩, .int .i64 r]) ∧ Keeps (fun _ => False) w w' := by
  obtain ⟨s, ha, rfl⟩ := h
  exact get_no p s room ps fr sl g w ha hr hl r hc hr0
theorem set_ok_i (i : Nat) (g : Int) (v : ByteArray) (x : Pl) (h : Is w p F room ps fr) (hr : room ≤ 1000) (hl : ps.length ≤ 1000) (hc : code room ps i g = 0) (hx : ps[i]? = some x) :
    Calls Try.prog 41 #[.pointer (some ⟨p, 0, none⟩), .int .i64 (i : Int), .int .i64 g, .string v] w fun e w' => e = .returned (.int .i64 0) ∧ Is w' p F room (ps.set i ⟨v, x.g, x.on⟩) fr ∧ Keeps F w w' := by
  obtain ⟨s, ha, rfl⟩ := h
  refine (set_ok p s room ps fr i g v x w ha hr hl hc hx).mono ?_
  rintro e w' ⟨he, ha', k⟩
  exact ⟨he, ⟨s, ha', rfl⟩, k⟩
theorem set_no_i (sl g : Int) (v : ByteArray) (h : Is w p F room ps fr) (hr : room ≤ 1000) (hl : ps.length ≤ 1000) (r : Int) (hc : code room ps sl g = r) (hr0 : r ≠ 0) :
    Calls Try.prog 41 #[.pointer (some ⟨p, 0, none⟩), .int .i64 sl, .int .i64 g, .string v] w fun e w' => e = .returned (.int .i64 r) ∧ Keeps (fun _ => False) w w' := by
  obtain ⟨s, ha, rfl⟩ := h
  exact set_no p s room ps fr sl g v w ha hr hl r hc hr0
theorem free_ok_i (i : Nat) (g : Int) (x : Pl) (h : Is w p F room ps fr) (hr : room ≤ 1000) (hl : ps.length ≤ 1000) (hf : fr.length ≤ 1000) (hc : code room ps i g = 0) (hx : ps[i]? = some x) :
    Calls Try.prog 43 #[.pointer (some ⟨p, 0, none⟩), .int .i64 (i : Int), .int .i64 g] w fun e w' => e = .returned (.int .i64 0) ∧ (∃ F', Is w' p F' room (ps.set i ⟨⟨#[]⟩, x.g, false⟩) (fr ++ [i]) ∧ ∀ q, F' q → F q ∨ w.heap.size ≤ q) ∧ Keeps F w w' := by
  obtain ⟨s, ha, rfl⟩ := h
  refine (free_ok p s room ps fr i g x w ha hr hl hf hc hx).mono ?_
  rintro e w' ⟨he, ⟨B, b, ha', hb⟩, k⟩
  exact ⟨he, ⟨_, ⟨_, ha', rfl⟩, hb⟩, k⟩
theorem free_no_i (sl g : Int) (h : Is w p F room ps fr) (hr : room ≤ 1000) (hl : ps.length ≤ 1000) (r : Int) (hc : code room ps sl g = r) (hr0 : r ≠ 0) :
    Calls Try.prog 43 #[.pointer (some ⟨p, 0, none⟩), .int .i64 sl, .int .i64 g] w fun e w' => e = .returned (.int .i64 r) ∧ Keeps (fun _ => False) w w' := by
  obtain ⟨s, ha, rfl⟩ := h
  exact free_no p s room ps fr sl g w ha hr hl r hc hr0
theorem all_i (h : Is w p F room ps fr) (hl : ps.length ≤ 1000) :
    Calls Try.prog 44 #[.pointer (some ⟨p, 0, none⟩)] w fun e w' => ∃ A' c' B' d', e = .returned (.tuple #[.slice A' (ArS.handles ps).length c', .slice B' (ArS.handles ps).length d']) ∧ Has w' 3 1 (.slice A' (ArS.handles ps).length c') (ArS.handles ps).length (slots (ArS.handles ps)) ∧ Has w' 2 1 (.slice B' (ArS.handles ps).length d') (ArS.handles ps).length (gs (ArS.handles ps)) ∧ Keeps (fun _ => False) w w' := by
  obtain ⟨s, ha, rfl⟩ := h
  exact all_any p s room ps fr w ha hl
end
end RefAr
end Go.Proofs.Ytpfhogbkbodfjab
