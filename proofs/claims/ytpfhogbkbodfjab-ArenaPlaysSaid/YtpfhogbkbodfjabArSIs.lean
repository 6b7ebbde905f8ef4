/- An Arena of the call's own, at the kind string; conditions: at most 1000 places. -/
import Derived.Test.YtpfhogbkbodfjabArS
namespace Go.Proofs.Ytpfhogbkbodfjab
open Go.RowKit
set_option linter.unusedVariables false
set_option linter.unusedSimpArgs false
namespace ArS
open Ar
/-- An Arena at block p, holding the blocks F. -/
def Is (w : World) (p : Nat) (F : Nat → Prop) (room : Nat) (ps : List (APlace El)) (fr : List Nat) : Prop := ∃ A c B d, At w p A c B d room ps fr ∧ F = Foot p A B
theorem Is.kept {w w' : World} {p room : Nat} {F S : Nat → Prop} {ps : List (APlace El)} {fr : List Nat} (h : Is w p F room ps fr) (k : Keeps S w w') (hS : ∀ b, F b → ¬ S b) : Is w' p F room ps fr := by
  obtain ⟨A, c, B, d, ha, rfl⟩ := h
  exact ⟨A, c, B, d, ha.kept k hS, rfl⟩
theorem Is.lt {w : World} {p room : Nat} {F : Nat → Prop} {ps : List (APlace El)} {fr : List Nat} (h : Is w p F room ps fr) : ∀ b, F b → b < w.heap.size := by
  obtain ⟨A, c, B, d, ha, rfl⟩ := h
  exact ha.lt
/-- None of its blocks is of another kind. -/
theorem Is.ne {w : World} {p room : Nat} {F : Nat → Prop} {ps : List (APlace El)} {fr : List Nat} (h : Is w p F room ps fr) {g : Nat} {cur : Array Value} {e : TypeId} (hg : w.heap[g]? = some (.cells cur e (0, 0))) (h1 : e ≠ 124) (h2 : e ≠ 126) (h3 : e ≠ 3) : ¬ F g := by
  obtain ⟨A, c, B, d, ha, rfl⟩ := h
  rintro (rfl | hb | hb)
  · have := ha.Bl
    unfold Blk at this
    rw [hg] at this
    injection this with this
    injection this with _ ht
    exact h1 ht
  · rcases ha.P.2 with ⟨h0, _⟩ | ⟨g', _, _, hv, _, hh, _⟩
    · injection h0 with hA; subst hA; cases hb
    · injection hv with hA
      subst hA
      cases hb
      rw [hg] at hh
      injection hh with hh
      injection hh with _ ht
      exact h2 ht
  · rcases ha.F.2 with ⟨h0, _⟩ | ⟨g', _, _, hv, _, hh, _⟩
    · injection h0 with hA; subst hA; cases hb
    · injection hv with hA
      subst hA
      cases hb
      rw [hg] at hh
      injection hh with hh
      injection hh with _ ht
      exact h3 ht
/-- An Arena of the call's own, the call having begun at w. -/
structure Mem (w : World) (p : Nat) (F : Nat → Prop) (room : Nat) (ps : List (APlace El)) (fr : List Nat) (wr : World) : Prop where
  P : Is wr p F room ps fr
  bF : ∀ b, F b → w.heap.size ≤ b
  B : Below w.heap.size w wr
  z : w.heap.size ≤ wr.heap.size
section
variable {w : World} {p room : Nat} {F : Nat → Prop} {ps : List (APlace El)} {fr : List Nat} {w1 w2 : World}
theorem Mem.keep (h : Mem w p F room ps fr w1) (k : Keeps (fun _ => False) w1 w2) : Mem w p F room ps fr w2 := ⟨h.P.kept k (fun _ _ h => h), h.bF, below_keeps h.B k h.z (fun _ h => h.elim), Nat.le_trans h.z k.size⟩
theorem Mem.onP (h : Mem w p F room ps fr w1) {F' : Nat → Prop} {ps' : List (APlace El)} {fr' : List Nat} (k : Keeps F w1 w2) (hI : Is w2 p F' room ps' fr') (hF : ∀ b, F' b → F b ∨ w1.heap.size ≤ b) : Mem w p F' room ps' fr' w2 :=
  ⟨hI, fun b hb => (hF b hb).elim (h.bF b) (fun h' => Nat.le_trans h.z h'), below_keeps h.B k h.z h.bF, Nat.le_trans h.z k.size⟩
theorem Mem.other (h : Mem w p F room ps fr w1) {S : Nat → Prop} (k : Keeps S w1 w2) (hS : ∀ b, F b → ¬ S b) (hb : ∀ b, S b → w.heap.size ≤ b) : Mem w p F room ps fr w2 :=
  ⟨h.P.kept k hS, h.bF, below_keeps h.B k h.z hb, Nat.le_trans h.z k.size⟩
end
section
variable {w : World} {p room : Nat} {F : Nat → Prop} {ps : List (APlace El)} {fr : List Nat}
theorem new_m (room : Nat) (w : World) (wa : World) (ba : Below w.heap.size w wa) (h1 : 1 ≤ room) (h2 : room ≤ 1000) :
    Calls Try.prog 35 #[.int .i64 (room : Int)] wa fun e w' => ∃ p F, e = .returned (.tuple #[.pointer (some ⟨p, 0, none⟩), .int .i64 0]) ∧ Mem w p F room [] [] w' ∧ Keeps (fun _ => False) wa w' := by
  refine (new_any room wa h1 h2).mono ?_
  rintro e w' ⟨p, he, hp, ha, k⟩
  refine ⟨p, Foot p none none, he, ⟨⟨none, 0, none, 0, ha, rfl⟩, ?_, below_keeps ba k ba.size (fun _ h => h.elim), Nat.le_trans ba.size k.size⟩, k⟩
  rintro b (rfl | hb | hb)
  · exact Nat.le_trans ba.size hp
  · cases hb
  · cases hb
theorem put_new_m {n : Nat} (v : El) (wr : World) (M : Mem w p F room ps [] wr) (hn : ps.length = n) (hr : n < room) (hl : room ≤ 1000) :
    Calls Try.prog 36 #[.pointer (some ⟨p, 0, none⟩), .string v] wr fun e w' => e = .returned (.tuple #[.agg #[.int .i64 (n : Int), .int .i64 1], .int .i64 0]) ∧ (∃ F', Mem w p F' room (ps ++ [⟨v, 1, true⟩]) [] w') ∧ Keeps F wr w' := by
  subst hn
  obtain ⟨A, c, B, d, ha, hF⟩ := M.P
  subst hF
  refine (put_new p A c B d room ps v wr ha hr hl).mono ?_
  rintro e w' ⟨he, ⟨A', c', ha', hf⟩, k⟩
  exact ⟨he, ⟨_, M.onP k ⟨A', c', B, d, ha', rfl⟩ hf⟩, k⟩
theorem put_full_m (v : El) (wr : World) (M : Mem w p F room ps [] wr) (hr : room ≤ ps.length) (hl : ps.length ≤ 1000) :
    Calls Try.prog 36 #[.pointer (some ⟨p, 0, none⟩), .string v] wr fun e w' => e = .returned (.tuple #[.agg #[.int .i64 0, .int .i64 0], .int .i64 6]) ∧ Mem w p F room ps [] w' ∧ Keeps (fun _ => False) wr w' := by
  obtain ⟨A, c, B, d, ha, hF⟩ := M.P
  refine (put_full p A c B d room ps v wr ha hr hl).mono ?_
  rintro e w' ⟨he, k⟩
  exact ⟨he, M.keep k, k⟩
theorem put_free_m (v : El) (i : Nat) (x : APlace El) (wr : World) (M : Mem w p F room ps (fr ++ [i]) wr) (hx : ps[i]? = some x) (hg : 0 ≤ x.g ∧ x.g ≤ 1000000) (hl : ps.length ≤ 1000) (hf : fr.length ≤ 1000) :
    Calls Try.prog 36 #[.pointer (some ⟨p, 0, none⟩), .string v] wr fun e w' => e = .returned (.tuple #[.agg #[.int .i64 (i : Int), .int .i64 (x.g + 1)], .int .i64 0]) ∧ Mem w p F room (ps.set i ⟨v, x.g + 1, true⟩) fr w' ∧ Keeps F wr w' := by
  obtain ⟨A, c, B, d, ha, hF⟩ := M.P
  subst hF
  refine (put_free p A c B d room ps fr i x v wr ha hx hg hl hf).mono ?_
  rintro e w' ⟨he, ha', k⟩
  exact ⟨he, M.onP k ⟨A, c, B, d, ha', rfl⟩ (fun b hb => .inl hb), k⟩
theorem get_ok_m (s : Nat) (x : APlace El) (wr : World) (M : Mem w p F room ps fr wr) (hs : s < room) (hr : room ≤ 1000) (hl : ps.length ≤ 1000) (hx : ps[s]? = some x) (ho : x.on = true) :
    Calls Try.prog 38 #[.pointer (some ⟨p, 0, none⟩), .agg #[.int .i64 (s : Int), .int .i64 x.g]] wr fun e w' => e = .returned (.tuple #[.string x.v, .int .i64 0]) ∧ Mem w p F room ps fr w' ∧ Keeps (fun _ => False) wr w' := by
  obtain ⟨A, c, B, d, ha, hF⟩ := M.P
  refine (get_ok p A c B d room ps fr s x wr ha hs hr hl hx ho).mono ?_
  rintro e w' ⟨he, k⟩
  exact ⟨he, M.keep k, k⟩
theorem get_no_m (s g : Int) (wr : World) (M : Mem w p F room ps fr wr) (hr : room ≤ 1000) (hl : ps.length ≤ 1000) (r : Int) (hc : code room ps s g = r) (hr0 : r ≠ 0) :
    Calls Try.prog 38 #[.pointer (some ⟨p, 0, none⟩), .agg #[.int .i64 s, .int .i64 g]] wr fun e w' => e = .returned (.tuple #[.string ⟨#[]⟩, .int .i64 r]) ∧ Mem w p F room ps fr w' ∧ Keeps (fun _ => False) wr w' := by
  obtain ⟨A, c, B, d, ha, hF⟩ := M.P
  refine (get_no p A c B d room ps fr s g wr ha hr hl r hc hr0).mono ?_
  rintro e w' ⟨he, k⟩
  exact ⟨he, M.keep k, k⟩
theorem free_ok_m (s : Nat) (x : APlace El) (wr : World) (M : Mem w p F room ps fr wr) (hs : s < room) (hr : room ≤ 1000) (hl : ps.length ≤ 1000) (hf : fr.length ≤ 1000) (hx : ps[s]? = some x) (ho : x.on = true) :
    Calls Try.prog 42 #[.pointer (some ⟨p, 0, none⟩), .agg #[.int .i64 (s : Int), .int .i64 x.g]] wr fun e w' => e = .returned (.int .i64 0) ∧ (∃ F', Mem w p F' room (ps.set s ⟨⟨#[]⟩, x.g, false⟩) (fr ++ [s]) w') ∧ Keeps F wr w' := by
  obtain ⟨A, c, B, d, ha, hF⟩ := M.P
  subst hF
  refine (free_ok p A c B d room ps fr s x wr ha hs hr hl hf hx ho).mono ?_
  rintro e w' ⟨he, ⟨B', d', ha', hf'⟩, k⟩
  exact ⟨he, ⟨_, M.onP k ⟨A, c, B', d', ha', rfl⟩ hf'⟩, k⟩
theorem free_no_m (s g : Int) (wr : World) (M : Mem w p F room ps fr wr) (hr : room ≤ 1000) (hl : ps.length ≤ 1000) (r : Int) (hc : code room ps s g = r) (hr0 : r ≠ 0) :
    Calls Try.prog 42 #[.pointer (some ⟨p, 0, none⟩), .agg #[.int .i64 s, .int .i64 g]] wr fun e w' => e = .returned (.int .i64 r) ∧ Mem w p F room ps fr w' ∧ Keeps (fun _ => False) wr w' := by
  obtain ⟨A, c, B, d, ha, hF⟩ := M.P
  refine (free_no p A c B d room ps fr s g wr ha hr hl r hc hr0).mono ?_
  rintro e w' ⟨he, k⟩
  exact ⟨he, M.keep k, k⟩
end
end ArS
end Go.Proofs.Ytpfhogbkbodfjab
