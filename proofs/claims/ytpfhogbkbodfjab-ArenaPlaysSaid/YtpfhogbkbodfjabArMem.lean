/- The program's arena, the reference's, and the handles told, in one world; conditions: none. -/
import Derived.Test.YtpfhogbkbodfjabArU
import Derived.Test.YtpfhogbkbodfjabArSAll
import Derived.Test.YtpfhogbkbodfjabArSLen
import Derived.Test.YtpfhogbkbodfjabAct4
import Derived.Test.YtpfhogbkbodfjabAwake4
namespace Go.Proofs.Ytpfhogbkbodfjab
open Go.RowKit
set_option linter.unusedVariables false
set_option linter.unusedSimpArgs false
namespace RefAr
theorem Is.ne {w : World} {p room : Nat} {F : Nat → Prop} {ps : List Pl} {fr : List Nat} (h : Is w p F room ps fr) {g : Nat} {cur : Array Value} (hg : w.heap[g]? = some (.cells cur 42 (0, 0))) : ¬ F g := by
  obtain ⟨s, ha, rfl⟩ := h
  have key : ∀ {e : TypeId} {n c : Nat} {A : Option Addr} {cs : List Value}, Has w e 1 (.slice A n c) n cs → e ≠ 42 → ob A ≠ some g := fun h hne hb => by
    obtain ⟨c1, h1⟩ := has_type h ((ob_eq _ _ _).trans hb)
    rw [hg] at h1
    injection h1 with h1
    injection h1 with _ ht
    exact hne ht.symm
  rintro (rfl | hb | hb | hb | hb)
  · have := ha.Bl
    unfold Blk at this
    rw [hg] at this
    injection this with this
    injection this with _ ht
    exact absurd ht (by decide)
  · exact key (Has.of_own ha.I) (by decide) hb
  · exact key (Has.of_own ha.G) (by decide) hb
  · exact key (Has.of_own ha.V) (by decide) hb
  · exact key ha.F (by decide) hb
end RefAr
namespace ArU
open ArS (hf)
/-- The two arenas, and the handles told. -/
structure Mem (w : World) (p q : Nat) (F G : Nat → Prop) (room : Nat) (ps : List Pl) (fr : List Nat) (ps' : List Pl) (fr' : List Nat) (told : Value) (hs : List (Nat × Int)) (wr : World) : Prop where
  P : ArS.Is wr p F room ps fr
  Q : RefAr.Is wr q G room ps' fr'
  T : wr.ownsRow w.heap.size 42 2 told hs.length (hs.flatMap hf)
  bF : ∀ b, F b → w.heap.size ≤ b
  bG : ∀ b, G b → w.heap.size ≤ b
  dj : ∀ b, F b → ¬ G b
  B : Below w.heap.size w wr
  z : w.heap.size ≤ wr.heap.size
section
variable {w : World} {p q room : Nat} {F G : Nat → Prop} {ps ps' : List Pl} {fr fr' : List Nat} {told : Value} {hs : List (Nat × Int)} {w1 w2 : World}
theorem Mem.keep (h : Mem w p q F G room ps fr ps' fr' told hs w1) (k : Keeps (fun _ => False) w1 w2) : Mem w p q F G room ps fr ps' fr' told hs w2 :=
  ⟨h.P.kept k (fun _ _ h => h), h.Q.stay k, own_kept h.T k (fun _ _ _ _ h => h), h.bF, h.bG, h.dj, below_keeps h.B k h.z (fun _ h => h.elim), Nat.le_trans h.z k.size⟩
theorem Mem.onP (h : Mem w p q F G room ps fr ps' fr' told hs w1) {F' : Nat → Prop} {ps2 : List Pl} {fr2 : List Nat} (k : Keeps F w1 w2) (hI : ArS.Is w2 p F' room ps2 fr2) (hF : ∀ b, F' b → F b ∨ w1.heap.size ≤ b) : Mem w p q F' G room ps2 fr2 ps' fr' told hs w2 :=
  ⟨hI, h.Q.kept k (fun b hb hf => h.dj b hf hb), own_kept h.T k (fun g cur hg _ hF => h.P.ne hg (by decide) (by decide) (by decide) hF), fun b hb => (hF b hb).elim (h.bF b) (fun h' => Nat.le_trans h.z h'), h.bG,
    fun b hb hg => (hF b hb).elim (fun hf => h.dj b hf hg) (fun h' => by have := h.Q.lt b hg; omega), below_keeps h.B k h.z h.bF, Nat.le_trans h.z k.size⟩
theorem Mem.onQ (h : Mem w p q F G room ps fr ps' fr' told hs w1) {G' : Nat → Prop} {ps2 : List Pl} {fr2 : List Nat} (k : Keeps G w1 w2) (hI : RefAr.Is w2 q G' room ps2 fr2) (hG : ∀ b, G' b → G b ∨ w1.heap.size ≤ b) : Mem w p q F G' room ps fr ps2 fr2 told hs w2 :=
  ⟨h.P.kept k (fun b hb hf => h.dj b hb hf), hI, own_kept h.T k (fun g cur hg _ hF => h.Q.ne hg hF), h.bF, fun b hb => (hG b hb).elim (h.bG b) (fun h' => Nat.le_trans h.z h'),
    fun b hb hg => (hG b hg).elim (fun hf => h.dj b hb hf) (fun h' => by have := h.P.lt b hb; omega), below_keeps h.B k h.z h.bG, Nat.le_trans h.z k.size⟩
/-- A handle more is told (behind an append). -/
theorem Mem.tell (h : Mem w p q F G room ps fr ps' fr' told hs w1) {told' : Value} {x : Nat × Int} (own : w2.ownsRow w.heap.size 42 2 told' (hs.length + 1) (hs.flatMap hf ++ hf x)) (g : w1.grownBy w2 told.ownBlock) : Mem w p q F G room ps fr ps' fr' told' (hs ++ [x]) w2 := by
  have k : Keeps (fun b => told.ownBlock = some b) w1 w2 := keeps_grown (Keeps.refl _ _) g (fun g h => .inl h)
  have hty : ∀ b, told.ownBlock = some b → ∃ cur, w1.heap[b]? = some (.cells cur 42 (0, 0)) := fun b hb => RefAr.has_type (Has.of_own h.T) hb
  refine ⟨h.P.kept k (fun b hb hf => ?_), h.Q.kept k (fun b hb hf => ?_), by simpa using own, h.bF, h.bG, h.dj, below_keeps h.B k h.z (fun b hb => (h.T.lt b hb).1), Nat.le_trans h.z k.size⟩
  · obtain ⟨cur, hc⟩ := hty b hf
    exact h.P.ne hc (by decide) (by decide) (by decide) hb
  · obtain ⟨cur, hc⟩ := hty b hf
    exact h.Q.ne hc hb
end
end ArU
end Go.Proofs.Ytpfhogbkbodfjab
