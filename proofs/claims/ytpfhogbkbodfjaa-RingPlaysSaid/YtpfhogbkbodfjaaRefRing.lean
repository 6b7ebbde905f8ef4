/- What each function of the reference's Ring does; conditions: its list reads as bools, at most 64 of them. -/
import Derived.Test.YtpfhogbkbodfjaaRing
import Derived.Test.YtpfhogbkbodfjaaSlice
import Derived.Deep.DeepMust
namespace Go.Proofs.Ytpfhogbkbodfjaa
open Go.RowKit
set_option linter.unusedVariables false
set_option linter.unusedSimpArgs false
namespace RefRing
theorem infoB : (Try.prog.info? 4).map (fun i => (i.zero, i.size, i.bytes)) = some (some (.bool false), 1, 1) := by kernel_rfl
def At (w : World) (q : Nat) (s : Int) (xs : List Bool) : Prop :=
  ∃ A c, Blk w q 84 [.int .i64 s, .slice A xs.length c] ∧ Has w 4 1 (.slice A xs.length c) xs.length (xs.map Value.bool)
theorem At.kept {w w' : World} {q : Nat} {s : Int} {xs : List Bool} {S : Nat → Prop} (h : At w q s xs) (k : Keeps S w w') (hq : ¬ S q) (hS : ∀ g cur, w.heap[g]? = some (.cells cur 4 (0, 0)) → ¬ S g) : At w' q s xs := by
  obtain ⟨A, c, hb, hh⟩ := h
  exact ⟨A, c, hb.kept k hq, hh.kept k (fun g cur hg _ => hS g cur hg)⟩
def push (s : Int) (xs : List Bool) (y : Bool) : List Bool := if s < (xs ++ [y]).length then (xs ++ [y]).tail else xs ++ [y]
theorem fin_keep {w2 : World} {q B : Nat} {s : Int} {xs : List Bool} {y : Bool} {v0 : Value} {A2 : Option Addr} {e2 : Nat} (hb : Blk w2 q 84 [.int .i64 s, v0])
    (own : w2.ownsRow B 4 1 (.slice A2 (0 + xs.length + 1) e2) (0 + xs.length + 1) ([] ++ xs.map Value.bool ++ [.bool y])) (hs : ¬ s < (xs.length : Int) + 1) :
    At (w2.setCell ⟨q, 1, none⟩ (.slice A2 (xs.length + 1) e2)) q s (push s xs y) := by
  have hh := Has.of_own own
  simp only [Nat.zero_add, List.nil_append] at hh
  have e : push s xs y = xs ++ [y] := by unfold push; rw [if_neg (by simp; omega)]
  rw [e]
  refine ⟨A2, e2, by simpa using hb.set_ 1 _, ?_⟩
  have := hh.kept ((Keeps.refl (· = q) w2).setCell ⟨q, 1, none⟩ (.inl rfl) (.slice A2 (xs.length + 1) e2)) (fun g cur hg _ => own_ne hb (by decide) g cur hg)
  simpa using this
theorem fin_cut {w2 : World} {q B : Nat} {s : Int} {xs : List Bool} {y : Bool} {v0 : Value} {A2 : Option Addr} {e2 : Nat} (hb : Blk w2 q 84 [.int .i64 s, v0])
    (own : w2.ownsRow B 4 1 (.slice A2 (0 + xs.length + 1) e2) (0 + xs.length + 1) ([] ++ xs.map Value.bool ++ [.bool y])) (hs : s < (xs.length : Int) + 1) :
    (e2 = 1 → At (w2.setCell ⟨q, 1, none⟩ (.slice A2 xs.length 0)) q s (push s xs y)) ∧
    (e2 ≠ 1 → At (w2.setCell ⟨q, 1, none⟩ (.slice (A2.map fun x => ⟨x.block, x.off + 1, none⟩) xs.length (e2 - 1))) q s (push s xs y)) := by
  have hh := Has.of_own own
  simp only [Nat.zero_add, List.nil_append] at hh
  have e : push s xs y = (xs ++ [y]).tail := by unfold push; rw [if_pos (by simp; omega)]
  have hl : ((xs ++ [y]).tail).length = xs.length := by simp
  obtain ⟨x, ys, hxy⟩ : ∃ x ys, xs ++ [y] = x :: ys := by
    cases xs with
    | nil => exact ⟨y, [], rfl⟩
    | cons x xs => exact ⟨x, xs ++ [y], rfl⟩
  have hm : xs.map Value.bool ++ [.bool y] = .bool x :: ys.map Value.bool := by
    have : (xs ++ [y]).map Value.bool = (x :: ys).map Value.bool := by rw [hxy]
    simpa using this
  rw [hm] at hh
  rw [e, hxy, List.tail_cons]
  rw [hxy, List.tail_cons] at hl
  obtain ⟨h1, h2⟩ := cut_first hh
  refine ⟨fun he => ⟨A2, 0, ?_, ?_⟩, fun he => ⟨A2.map fun x => ⟨x.block, x.off + 1, none⟩, e2 - 1, ?_, ?_⟩⟩
  · rw [hl]; exact hb.set_ 1 _
  · rw [hl]; exact (h1 he).kept ((Keeps.refl (· = q) w2).setCell ⟨q, 1, none⟩ (.inl rfl) _) (fun g cur hg _ => own_ne hb (by decide) g cur hg)
  · rw [hl]; exact hb.set_ 1 _
  · rw [hl]; exact (h2 he).kept ((Keeps.refl (· = q) w2).setCell ⟨q, 1, none⟩ (.inl rfl) _) (fun g cur hg _ => own_ne hb (by decide) g cur hg)
set_option maxHeartbeats 1000000 in
set_option maxRecDepth 100000 in
theorem add_any (q : Nat) (s : Int) (xs : List Bool) (y : Bool) (w : World) (hs : 1 ≤ s) (hl : xs.length ≤ 1000) (h : At w q s xs) :
    Calls Try.prog 44 #[.pointer (some ⟨q, 0, none⟩), .bool y] w fun e w' => e = .returned (.tuple #[]) ∧ At w' q s (push s xs y) ∧ Keeps (· = q) w w' := by
  obtain ⟨i0, hi0, hz0, hz1, hz2⟩ := info_parts infoB
  obtain ⟨A, c, hb, hh⟩ := h
  have c0 := hb.cellAt (i := 0) rfl
  have c1 := hb.cellAt (i := 1) rfl
  have f := hb.frozen
  have hql := hb.lt
  have hlen : (xs.map Value.bool).length = xs.length := List.length_map ..
  have HLEN := Lib.hid hlen
  clear hlen
  go_enter Try.func44, Try.ntmps44
  go_wp2_with (first
    | (at_builtin; (refine wpList_append_has rfl (.tmp 5) (.tmp 9) 49 rfl i0 _ 1 Try.underlying49 hi0 hz0 hz1 hz2 rfl (by omega) rfl (own_empty w w.heap.size 4 1 (Nat.le_refl _)) A xs.length c (xs.map Value.bool) rfl (hh.kept ((Keeps.refl (fun _ => False) _).alloc _) (fun _ _ _ _ h => h)) (bools_one _) (by unfold maxLen; omega) (by omega) (by simp) ?_; intro v1 w1 own1 g1 at1); go_must (have K1 : Keeps (· = q) w w1 := keeps_grown ((Keeps.refl _ _).alloc _) g1 (fun g h => .inr (Nat.le_of_eq (slice_block h))); have hb1 := (hb.alloc (.cells #[] 4)).grown g1 (fun h => by have := slice_block h; omega); have d0 := hb1.cellAt (i := 0) rfl; have df := hb1.frozen; have z1 := K1.size))
    | (at_builtin; go_must (refine wpList_append_has rfl (.tmp 10) (.tmp 12) 49 rfl i0 _ 1 Try.underlying49 hi0 hz0 hz1 hz2 rfl (by omega) rfl (own1.alloc _) (some ⟨w1.heap.size, 0, none⟩) 1 1 [.bool y] rfl (Has.box w1 4 1 1 [.bool y] rfl (by unfold maxLen; omega)) (bools_one [y]) (by unfold maxLen; omega) (by omega) (by simp; omega) ?_); intro v2 w2 own2 g2 at2; obtain ⟨A2, e2, hv2⟩ := own_shape own2; subst hv2; have K2 : Keeps (· = q) w w2 := keeps_grown (K1.alloc _) g2 (fun g h => .inr (own1.lt g h).1); have hb2 := (hb1.alloc (.cells #[.bool y] 4)).grown g2 (own_type_ne own1 hb1 (by decide)); have d0 := hb2.cellAt (i := 0) rfl; have d1 := hb2.cellAt (i := 1) rfl; have df := hb2.frozen; have z2 := K2.size)
    | fail)
  all_goals go_end0
  · exact ⟨rfl, (fin_cut hb2 own2 ‹_›).1 ‹_›, K2.setCell _ (.inl rfl) _⟩
  · exact ⟨rfl, (fin_cut hb2 own2 ‹_›).2 ‹_›, K2.setCell _ (.inl rfl) _⟩
  · exact ⟨rfl, fin_keep hb2 own2 (by omega), K2.setCell _ (.inl rfl) _⟩
end RefRing
end Go.Proofs.Ytpfhogbkbodfjaa
