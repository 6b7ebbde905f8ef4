/- The runner in memory: its trace, and those that are taken again; conditions: none. -/
import Derived.Test.YtbgiegecfapmlaaGreatDoorRunMem
namespace Go.Proofs.YtbgiegecfapmlaaGreatDoor
open Go.RowKit
set_option linter.unusedVariables false
set_option linter.unusedSimpArgs false
namespace Rob
open Job (jc jv)
section
variable {base : Nat} {w w' : World} {d : Adr} {js : List J} {s : St} {now : Int}
theorem At.trs (h : At base w d js s now) (hbase : base ≤ w.heap.size) {v : Value} {l : List Int} (k : Keeps (Turn d.p d.tv) w w') (hf : Fresh w d.tv v)
    (hB : Blk w' d.p 82 [.slice d.Aj js.length d.cj, .slice (some ⟨d.gi, 0, none⟩) js.length d.ci, .slice (some ⟨d.gr, 0, none⟩) js.length d.cr, v, .slice (some ⟨d.gf, 0, none⟩) js.length d.cf, d.sv, d.av, .int .i64 now])
    (hS : w'.ownsRow base 3 1 v l.length (l.map iv)) : At base w' { d with tv := v } js { s with tr := l } now := by
  have a := h.apt
  have hsv : ∀ b, d.tv.ownBlock = some b → b ∈ ob d.tv ++ ob d.sv ++ ob d.av ++ (d.Aj.map (·.block)).toList := fun b hb => by simp [ob_mem.2 hb]
  have hne : ∀ b, b ∈ ob d.sv ∨ b ∈ ob d.av ∨ b ∈ (d.Aj.map (·.block)).toList → ¬ Turn d.p d.tv b := by
    rintro b hb (e | e)
    · exact (a.o b (by simp only [List.mem_append]; rcases hb with hb | hb | hb <;> simp [hb])).1 e
    · have hs := ob_mem.2 e
      have n := a.n
      rw [List.append_assoc, List.append_assoc] at n
      have n1 := List.nodup_append.1 n
      have n2 := List.nodup_append.1 n1.2.1
      have n3 := List.nodup_append.1 n2.2.1
      rcases hb with hb | hb | hb
      · exact n1.2.2 b hs b (by simp [hb]) rfl
      · exact n1.2.2 b hs b (by simp [hb]) rfl
      · exact n1.2.2 b hs b (by simp only [List.mem_append]; exact .inr (.inr hb)) rfl
  have hnd := h.nd
  have hlt := h.lt
  rw [show d = { d with tv := d.tv } from rfl, blocks_t] at hnd hlt
  obtain ⟨m1, m2⟩ := nodup_new hnd hlt hf
  constructor
  · exact hB
  · exact Row.kept' h.JR k (fun x hx => hne _ (.inr (.inr (by have hx : d.Aj = some x := hx; simp [hx]))))
  · exact h.I.kept k (fun e => e.elim (fun e => a.pi e.symm) (fun e => (a.o _ (hsv _ e)).2.1 rfl))
  · exact h.R.kept k (fun e => e.elim (fun e => a.pr e.symm) (fun e => (a.o _ (hsv _ e)).2.2.1 rfl))
  · exact h.F.kept k (fun e => e.elim (fun e => a.pf e.symm) (fun e => (a.o _ (hsv _ e)).2.2.2 rfl))
  · exact h.li
  · exact h.lr
  · exact h.lf
  · exact hS
  · exact own_kept h.S k (fun g _ _ hg => hne g (.inl (ob_mem.2 hg)))
  · exact own_kept h.A k (fun g _ _ hg => hne g (.inr (.inl (ob_mem.2 hg))))
  · rw [blocks_t]; exact m1
  · rw [blocks_t]; intro b hb
    rcases m2 b hb with hb | ⟨_, hb⟩
    · exact h.ge b (by rw [show d = { d with tv := d.tv } from rfl, blocks_t]; exact hb)
    · exact Nat.le_trans hbase hb
  · rw [blocks_t]; intro b hb
    rcases m2 b hb with hb' | ⟨hb', _⟩
    · exact Nat.lt_of_lt_of_le (hlt b hb') k.size
    · exact (own_block_lt hS b hb').2
  · exact h.n12
theorem At.ags (h : At base w d js s now) (hbase : base ≤ w.heap.size) {v : Value} {l : List Int} (k : Keeps (Turn d.p d.av) w w') (hf : Fresh w d.av v)
    (hB : Blk w' d.p 82 [.slice d.Aj js.length d.cj, .slice (some ⟨d.gi, 0, none⟩) js.length d.ci, .slice (some ⟨d.gr, 0, none⟩) js.length d.cr, d.tv, .slice (some ⟨d.gf, 0, none⟩) js.length d.cf, d.sv, v, .int .i64 now])
    (hS : w'.ownsRow base 3 1 v l.length (l.map iv)) : At base w' { d with av := v } js { s with ag := l } now := by
  have a := h.apt
  have hsv : ∀ b, d.av.ownBlock = some b → b ∈ ob d.tv ++ ob d.sv ++ ob d.av ++ (d.Aj.map (·.block)).toList := fun b hb => by simp [ob_mem.2 hb]
  have hne : ∀ b, b ∈ ob d.tv ∨ b ∈ ob d.sv ∨ b ∈ (d.Aj.map (·.block)).toList → ¬ Turn d.p d.av b := by
    rintro b hb (e | e)
    · exact (a.o b (by simp only [List.mem_append]; rcases hb with hb | hb | hb <;> simp [hb])).1 e
    · have hs := ob_mem.2 e
      have n := a.n
      rw [List.append_assoc, List.append_assoc] at n
      have n1 := List.nodup_append.1 n
      have n2 := List.nodup_append.1 n1.2.1
      have n3 := List.nodup_append.1 n2.2.1
      rcases hb with hb | hb | hb
      · exact n1.2.2 b hb b (by simp [hs]) rfl
      · exact n2.2.2 b hb b (by simp [hs]) rfl
      · exact n3.2.2 b hs b hb rfl
  have hnd := h.nd
  have hlt := h.lt
  rw [show d = { d with av := d.av } from rfl, blocks_a] at hnd hlt
  obtain ⟨m1, m2⟩ := nodup_new hnd hlt hf
  constructor
  · exact hB
  · exact Row.kept' h.JR k (fun x hx => hne _ (.inr (.inr (by have hx : d.Aj = some x := hx; simp [hx]))))
  · exact h.I.kept k (fun e => e.elim (fun e => a.pi e.symm) (fun e => (a.o _ (hsv _ e)).2.1 rfl))
  · exact h.R.kept k (fun e => e.elim (fun e => a.pr e.symm) (fun e => (a.o _ (hsv _ e)).2.2.1 rfl))
  · exact h.F.kept k (fun e => e.elim (fun e => a.pf e.symm) (fun e => (a.o _ (hsv _ e)).2.2.2 rfl))
  · exact h.li
  · exact h.lr
  · exact h.lf
  · exact own_kept h.T k (fun g _ _ hg => hne g (.inl (ob_mem.2 hg)))
  · exact own_kept h.S k (fun g _ _ hg => hne g (.inr (.inl (ob_mem.2 hg))))
  · exact hS
  · rw [blocks_a]; exact m1
  · rw [blocks_a]; intro b hb
    rcases m2 b hb with hb | ⟨_, hb⟩
    · exact h.ge b (by rw [show d = { d with av := d.av } from rfl, blocks_a]; exact hb)
    · exact Nat.le_trans hbase hb
  · rw [blocks_a]; intro b hb
    rcases m2 b hb with hb' | ⟨hb', _⟩
    · exact Nat.lt_of_lt_of_le (hlt b hb') k.size
    · exact (own_block_lt hS b hb').2
  · exact h.n12
end
end Rob
end Go.Proofs.YtbgiegecfapmlaaGreatDoor
