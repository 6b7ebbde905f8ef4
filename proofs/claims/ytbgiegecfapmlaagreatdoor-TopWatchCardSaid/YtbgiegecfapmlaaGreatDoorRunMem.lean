/- The runner in memory: what each write leaves; conditions: none. -/
import Derived.Test.YtbgiegecfapmlaaGreatDoorRunLate
import Derived.Test.YtbgiegecfapmlaaGreatDoorRobMem
namespace Go.Proofs.YtbgiegecfapmlaaGreatDoor
open Go.RowKit
set_option linter.unusedVariables false
set_option linter.unusedSimpArgs false
namespace Rob
open Job (jc jv)
theorem nodup_new {l1 x l2 x' : List Nat} {N : Nat} (h : (l1 ++ x ++ l2).Nodup) (hlt : ∀ b ∈ l1 ++ x ++ l2, b < N) (hx : x' = x ∨ ∃ g, x' = [g] ∧ N ≤ g) :
    (l1 ++ x' ++ l2).Nodup ∧ ∀ b ∈ l1 ++ x' ++ l2, b ∈ l1 ++ x ++ l2 ∨ b ∈ x' ∧ N ≤ b := by
  rcases hx with rfl | ⟨g, rfl, hg⟩
  · exact ⟨h, fun b hb => .inl hb⟩
  · have hd : (l1 ++ l2).Nodup := by
      rw [List.append_assoc] at h
      have h1 := List.nodup_append.1 h
      have h2 := List.nodup_append.1 h1.2.1
      exact List.nodup_append.2 ⟨h1.1, h2.2.1, fun a ha b hb => h1.2.2 a ha b (by simp [hb])⟩
    have h3 := List.nodup_append.1 hd
    have hn : ∀ b, b ∈ l1 ∨ b ∈ l2 → b ≠ g := fun b hb => by
      have := hlt b (by rcases hb with hb | hb <;> simp [hb])
      omega
    refine ⟨?_, fun b hb => ?_⟩
    · rw [List.append_assoc]
      refine List.nodup_append.2 ⟨h3.1, ?_, fun a ha b hb => ?_⟩
      · rw [List.singleton_append, List.nodup_cons]
        exact ⟨fun hm => hn g (.inr hm) rfl, h3.2.1⟩
      · rw [List.singleton_append, List.mem_cons] at hb
        rcases hb with rfl | hb
        · exact hn a (.inl ha)
        · exact h3.2.2 a ha b hb
    · simp only [List.mem_append, List.mem_singleton] at hb ⊢
      rcases hb with (hb | rfl) | hb
      · exact .inl (.inl (.inl hb))
      · exact .inr ⟨rfl, hg⟩
      · exact .inl (.inr hb)
section
variable {base : Nat} {w w' : World} {d : Adr} {js : List J} {s : St} {now : Int}
/-- The blocks that a runner is made of are apart. -/
structure Apt (d : Adr) : Prop where
  pi : d.p ≠ d.gi
  pr : d.p ≠ d.gr
  pf : d.p ≠ d.gf
  ir : d.gi ≠ d.gr
  if_ : d.gi ≠ d.gf
  rf : d.gr ≠ d.gf
  o : ∀ b ∈ ob d.tv ++ ob d.sv ++ ob d.av ++ (d.Aj.map (·.block)).toList, b ≠ d.p ∧ b ≠ d.gi ∧ b ≠ d.gr ∧ b ≠ d.gf
  n : (ob d.tv ++ ob d.sv ++ ob d.av ++ (d.Aj.map (·.block)).toList).Nodup
theorem At.apt (h : At base w d js s now) : Apt d := by
  have hn := h.nd
  unfold Adr.blocks at hn
  rw [List.nodup_cons, List.nodup_cons, List.nodup_cons, List.nodup_cons] at hn
  obtain ⟨n1, n2, n3, n4, n5⟩ := hn
  refine ⟨fun e => n1 (by rw [e]; simp), fun e => n1 (by rw [e]; simp), fun e => n1 (by rw [e]; simp), fun e => n2 (by rw [e]; simp), fun e => n2 (by rw [e]; simp), fun e => n3 (by rw [e]; simp), fun b hb => ⟨?_, ?_, ?_, ?_⟩, n5⟩
  · rintro rfl; exact n1 (by simp only [List.mem_cons]; exact .inr (.inr (.inr hb)))
  · rintro rfl; exact n2 (by simp only [List.mem_cons]; exact .inr (.inr hb))
  · rintro rfl; exact n3 (by simp only [List.mem_cons]; exact .inr hb)
  · rintro rfl; exact n4 hb
theorem ob_mem {v : Value} {g : Nat} : g ∈ ob v ↔ v.ownBlock = some g := by unfold ob; simp [Option.mem_toList, Option.mem_def]
/-- One of 'is' is written. -/
theorem At.iset (h : At base w d js s now) (k : Keeps (· = d.gi) w w') {is : List Int} (hI : Blk w' d.gi 3 (is.map iv)) (hl : is.length = js.length) : At base w' d js { s with is := is } now := by
  have a := h.apt
  constructor
  · exact h.B.kept k a.pi
  · exact Row.kept' h.JR k (fun x hx => (a.o _ (by simp [hx])).2.1)
  · exact hI
  · exact h.R.kept k (fun e => a.ir e.symm)
  · exact h.F.kept k (fun e => a.if_ e.symm)
  · exact hl
  · exact h.lr
  · exact h.lf
  · exact own_kept h.T k (fun g _ _ hg => (a.o g (by simp [ob_mem.2 hg])).2.1)
  · exact own_kept h.S k (fun g _ _ hg => (a.o g (by simp [ob_mem.2 hg])).2.1)
  · exact own_kept h.A k (fun g _ _ hg => (a.o g (by simp [ob_mem.2 hg])).2.1)
  · exact h.nd
  · exact h.ge
  · exact fun b hb => Nat.lt_of_lt_of_le (h.lt b hb) k.size
  · exact h.n12
theorem At.setIs (h : At base w d js s now) {i : Nat} (hi : i < js.length) (k : Int) : At base (w.setCell ⟨d.gi, i, none⟩ (.int .i64 k)) d js (setI s i k) now ∧ Keeps (· = d.gi) w (w.setCell ⟨d.gi, i, none⟩ (.int .i64 k)) := by
  have K : Keeps (· = d.gi) w (w.setCell ⟨d.gi, i, none⟩ (.int .i64 k)) := (keep1 d.gi w).setCell _ (.inl rfl) _
  refine ⟨h.iset K ?_ (by rw [List.length_set]; exact h.li), K⟩
  rw [List.map_set]
  exact h.I.set_ i _
/-- One of 'ran' is written. -/
theorem At.rset (h : At base w d js s now) {i : Nat} (hi : i < js.length) (k : Int) : At base (w.setCell ⟨d.gr, i, none⟩ (.int .i64 k)) d js { s with ran := s.ran.set i k } now ∧ Keeps (· = d.gr) w (w.setCell ⟨d.gr, i, none⟩ (.int .i64 k)) := by
  have K : Keeps (· = d.gr) w (w.setCell ⟨d.gr, i, none⟩ (.int .i64 k)) := (keep1 d.gr w).setCell _ (.inl rfl) _
  have a := h.apt
  refine ⟨?_, K⟩
  constructor
  · exact h.B.kept K a.pr
  · exact Row.kept' h.JR K (fun x hx => (a.o _ (by simp [hx])).2.2.1)
  · exact h.I.kept K a.ir
  · show Blk _ _ _ ((s.ran.set i k).map iv)
    rw [List.map_set]; exact h.R.set_ i _
  · exact h.F.kept K (fun e => a.rf e.symm)
  · exact h.li
  · show (s.ran.set i k).length = _
    rw [List.length_set]; exact h.lr
  · exact h.lf
  · exact own_kept h.T K (fun g _ _ hg => (a.o g (by simp [ob_mem.2 hg])).2.2.1)
  · exact own_kept h.S K (fun g _ _ hg => (a.o g (by simp [ob_mem.2 hg])).2.2.1)
  · exact own_kept h.A K (fun g _ _ hg => (a.o g (by simp [ob_mem.2 hg])).2.2.1)
  · exact h.nd
  · exact h.ge
  · exact fun b hb => Nat.lt_of_lt_of_le (h.lt b hb) K.size
  · exact h.n12
/-- The tick is written. -/
theorem At.tick (h : At base w d js s now) (t : Int) : At base (w.setCell ⟨d.p, 7, none⟩ (.int .i64 t)) d js s t ∧ Keeps (· = d.p) w (w.setCell ⟨d.p, 7, none⟩ (.int .i64 t)) := by
  have K : Keeps (· = d.p) w (w.setCell ⟨d.p, 7, none⟩ (.int .i64 t)) := (keep1 d.p w).setCell _ (.inl rfl) _
  have a := h.apt
  refine ⟨?_, K⟩
  constructor
  · exact h.B.set_ 7 _
  · exact Row.kept' h.JR K (fun x hx => (a.o _ (by simp [hx])).1)
  · exact h.I.kept K (fun e => a.pi e.symm)
  · exact h.R.kept K (fun e => a.pr e.symm)
  · exact h.F.kept K (fun e => a.pf e.symm)
  · exact h.li
  · exact h.lr
  · exact h.lf
  · exact own_kept h.T K (fun g _ _ hg => (a.o g (by simp [ob_mem.2 hg])).1)
  · exact own_kept h.S K (fun g _ _ hg => (a.o g (by simp [ob_mem.2 hg])).1)
  · exact own_kept h.A K (fun g _ _ hg => (a.o g (by simp [ob_mem.2 hg])).1)
  · exact h.nd
  · exact h.ge
  · exact fun b hb => Nat.lt_of_lt_of_le (h.lt b hb) K.size
  · exact h.n12
theorem own_block_lt {e : TypeId} {size n : Nat} {v : Value} {xs : List Value} (h : w.ownsRow base e size v n xs) : ∀ g ∈ ob v, base ≤ g ∧ g < w.heap.size := by
  intro g hg
  rw [ob_mem] at hg
  rcases h.2 with ⟨rfl, _⟩ | ⟨g', cap, cur, rfl, hb', hg', _⟩
  · cases hg
  · cases hg
    exact ⟨hb', (Array.getElem?_eq_some_iff.1 hg').1⟩
/-- One of the runner's three rows is another one: in the block that it had, or in a new one. -/
def Fresh (w : World) (v v' : Value) : Prop := ob v' = ob v ∨ ∃ g, ob v' = [g] ∧ w.heap.size ≤ g
theorem Fresh.of {v v' : Value} {n : Nat} (h : v'.ownBlock = v.ownBlock ∨ v'.ownBlock = some n) (hn : w.heap.size ≤ n) : Fresh w v v' := by
  unfold Fresh ob
  rcases h with h | h
  · left; rw [h]
  · right; exact ⟨n, by rw [h]; rfl, hn⟩
theorem blocks_t (d : Adr) (v : Value) : ({ d with tv := v } : Adr).blocks = [d.p, d.gi, d.gr, d.gf] ++ ob v ++ (ob d.sv ++ ob d.av ++ (d.Aj.map (·.block)).toList) := by unfold Adr.blocks; simp
theorem blocks_s (d : Adr) (v : Value) : ({ d with sv := v } : Adr).blocks = ([d.p, d.gi, d.gr, d.gf] ++ ob d.tv) ++ ob v ++ (ob d.av ++ (d.Aj.map (·.block)).toList) := by unfold Adr.blocks; simp
theorem blocks_a (d : Adr) (v : Value) : ({ d with av := v } : Adr).blocks = ([d.p, d.gi, d.gr, d.gf] ++ ob d.tv ++ ob d.sv) ++ ob v ++ ((d.Aj.map (·.block)).toList) := by unfold Adr.blocks; simp
/-- What a row's turn leaves as it was: all but the runner's own cells, and that row's block. -/
def Turn (p : Nat) (v : Value) : Nat → Prop := fun b => b = p ∨ v.ownBlock = some b
theorem At.sheds (h : At base w d js s now) (hbase : base ≤ w.heap.size) {v : Value} {l : List Int} (k : Keeps (Turn d.p d.sv) w w') (hf : Fresh w d.sv v)
    (hB : Blk w' d.p 82 [.slice d.Aj js.length d.cj, .slice (some ⟨d.gi, 0, none⟩) js.length d.ci, .slice (some ⟨d.gr, 0, none⟩) js.length d.cr, d.tv, .slice (some ⟨d.gf, 0, none⟩) js.length d.cf, v, d.av, .int .i64 now])
    (hS : w'.ownsRow base 3 1 v l.length (l.map iv)) : At base w' { d with sv := v } js { s with sh := l } now := by
  have a := h.apt
  have an := List.nodup_append.1 (List.nodup_append.1 (List.nodup_append.1 a.n).1).1
  have hsv : ∀ b, d.sv.ownBlock = some b → b ∈ ob d.tv ++ ob d.sv ++ ob d.av ++ (d.Aj.map (·.block)).toList := fun b hb => by simp [ob_mem.2 hb]
  have hne : ∀ b, b ∈ ob d.tv ∨ b ∈ ob d.av ∨ b ∈ (d.Aj.map (·.block)).toList → ¬ Turn d.p d.sv b := by
    rintro b hb (e | e)
    · exact (a.o b (by simp only [List.mem_append]; rcases hb with hb | hb | hb <;> simp [hb])).1 e
    · have hs := ob_mem.2 e
      have n := a.n
      rw [List.append_assoc, List.append_assoc] at n
      have n1 := List.nodup_append.1 n
      have n2 := List.nodup_append.1 n1.2.1
      rcases hb with hb | hb | hb
      · exact n1.2.2 b hb b (by simp [hs]) rfl
      · exact n2.2.2 b hs b (by simp [hb]) rfl
      · exact n2.2.2 b hs b (by simp only [List.mem_append]; exact .inr hb) rfl
  have hnd := h.nd
  have hlt := h.lt
  rw [show d = { d with sv := d.sv } from rfl, blocks_s] at hnd hlt
  obtain ⟨m1, m2⟩ := nodup_new hnd hlt hf
  constructor
  · exact hB
  · exact Row.kept' h.JR k (fun x hx => hne _ (.inr (.inr (by have hx : d.Aj = some x := hx; simp [hx]))))
  · exact h.I.kept k (fun e => e.elim (fun e => a.pi e.symm) (fun e => (a.o _ (hsv _ e)).2.1 rfl))
  · exact h.R.kept k (fun e => e.elim (fun e => a.pr e.symm) (fun e => (a.o _ (hsv _ e)).2.2.1 rfl))
  · exact h.F.kept k (fun e => e.elim (fun e => a.pf e.symm) (fun e => (a.o _ (hsv _ e)).2.2.2 rfl))
  · exact h.li
  · exact h.lr
  · exact h.lf
  · exact own_kept h.T k (fun g _ _ hg => hne g (.inl (ob_mem.2 hg)))
  · exact hS
  · exact own_kept h.A k (fun g _ _ hg => hne g (.inr (.inl (ob_mem.2 hg))))
  · rw [blocks_s]; exact m1
  · rw [blocks_s]; intro b hb
    rcases m2 b hb with hb | ⟨_, hb⟩
    · exact h.ge b (by rw [show d = { d with sv := d.sv } from rfl, blocks_s]; exact hb)
    · exact Nat.le_trans hbase hb
  · rw [blocks_s]; intro b hb
    rcases m2 b hb with hb' | ⟨hb', _⟩
    · exact Nat.lt_of_lt_of_le (hlt b hb') k.size
    · exact (own_block_lt hS b hb').2
  · exact h.n12
end
end Rob
end Go.Proofs.YtbgiegecfapmlaaGreatDoor
