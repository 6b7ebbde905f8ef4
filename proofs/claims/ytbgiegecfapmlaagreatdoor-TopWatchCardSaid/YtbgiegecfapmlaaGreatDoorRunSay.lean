/- The runner: say; conditions: none. -/
import Derived.Test.YtbgiegecfapmlaaGreatDoorRunLeast
namespace Go.Proofs.YtbgiegecfapmlaaGreatDoor
open Go.RowKit
set_option linter.unusedVariables false
set_option linter.unusedSimpArgs false
namespace Rob
open Job (jc jv)
section
variable {base : Nat} {w w' : World} {d : Adr} {js : List J} {s : St} {now : Int}
theorem Row.kept' {α : Type} {cf : α → List Value} {size : Nat} {S : Nat → Prop} {A : Option Addr} {n : Nat} {xs : List α} (h : Row cf size w A n xs) (k : Keeps S w w') (hS : ∀ a, A = some a → ¬ S a.block) : Row cf size w' A n xs := by
  refine ⟨h.1, h.2.1, fun hn => ?_⟩
  obtain ⟨b, off, hA, hlt, hc⟩ := h.2.2 hn
  refine ⟨b, off, hA, Nat.lt_of_lt_of_le hlt k.size, fun i x hx j v hv => ?_⟩
  rw [World.cell?_of_block (a := ⟨b, off + i * size + j, none⟩) (k.block b hlt (hS _ hA))]
  exact hc i x hx j v hv
theorem At.kept (h : At base w d js s now) {S : Nat → Prop} (k : Keeps S w w') (hp : ¬ S d.p) (hi : ¬ S d.gi) (hr : ¬ S d.gr) (ho : ∀ b ∈ ob d.tv ++ ob d.sv ++ ob d.av ++ (d.Aj.map (·.block)).toList, ¬ S b)
    {fs : List (Int × Int)} (hf : Blk w' d.gf 53 (fs.flatMap fc)) (hl : fs.length = js.length) : At base w' d js { s with fs := fs } now := by
  constructor
  · exact h.B.kept k hp
  · exact Row.kept' h.JR k (fun a ha => ho _ (by simp [ha]))
  · exact h.I.kept k hi
  · exact h.R.kept k hr
  · exact hf
  · exact h.li
  · exact h.lr
  · exact hl
  · exact own_kept h.T k (fun g _ _ hg => ho g (by simp [ob, hg]))
  · exact own_kept h.S k (fun g _ _ hg => ho g (by simp [ob, hg]))
  · exact own_kept h.A k (fun g _ _ hg => ho g (by simp [ob, hg]))
  · exact h.nd
  · exact h.ge
  · exact fun b hb' => Nat.lt_of_lt_of_le (h.lt b hb') k.size
  · exact h.n12
/-- A fate is written. -/
theorem At.fate (h : At base w d js s now) (k : Keeps (· = d.gf) w w') {fs : List (Int × Int)} (hf : Blk w' d.gf 53 (fs.flatMap fc)) (hl : fs.length = js.length) : At base w' d js { s with fs := fs } now := by
  have hn := h.nd
  unfold Adr.blocks at hn
  rw [List.nodup_cons, List.nodup_cons, List.nodup_cons, List.nodup_cons] at hn
  obtain ⟨n1, n2, n3, n4, _⟩ := hn
  refine h.kept k (fun e => n1 (by rw [e]; simp)) (fun e => n2 (by rw [e]; simp)) (fun e => n3 (by rw [e]; simp)) (fun b hb e => n4 (by rw [← e]; exact hb)) hf hl
theorem fc_one : ∀ f : Int × Int, ∀ v ∈ fc f, v.oneCell' = true := by
  intro f v hv
  simp [fc] at hv
  rcases hv with rfl | rfl <;> rfl
set_option maxRecDepth 100000 in
set_option maxHeartbeats 4000000 in
theorem say_is (h : At base w d js s now) {i : Nat} (hi : i < js.length) (k t : Int) (ht : -1000000 ≤ now + t ∧ now + t ≤ 1000000) :
    Calls Tryz.prog 34 #[.pointer (some ⟨d.p, 0, none⟩), .int .i64 (i : Int), .int .i64 k, .int .i64 t] w fun e w' =>
      e = .returned (.tuple #[]) ∧ At base w' d js (say s i k (now + t)) now ∧ Keeps (· = d.gf) w w' := by
  have hwr : IntKind.i64.wrap (now + t) = now + t := by rw [IntKind.wrap_i64]; omega
  have hwr2 : wrap64 (now + t) = now + t := by unfold wrap64; omega
  have b4 := h.B.cellAt (i := 4) rfl
  have b7 := h.B.cellAt (i := 7) rfl
  have hif : i < s.fs.length := by rw [h.lf]; exact hi
  obtain ⟨f, hf⟩ : ∃ f, s.fs[i]? = some f := ⟨s.fs[i], List.getElem?_eq_getElem hif⟩
  have d0 := h.F.cellAt (flat_at fc_len hf (j := 0) rfl)
  have d1 := h.F.cellAt (flat_at fc_len hf (j := 1) rfl)
  rw [Nat.add_zero] at d0
  have fz := h.F.frozen
  have hi0 : (0 : Int) ≤ (i : Int) := by omega
  have hi1 : (i : Int) < (js.length : Int) := by omega
  have H := Lib.hid h
  have HT := Lib.hid ht
  clear h ht hf hif hi
  go_enter Tryz.func34, Tryz.ntmps34
  go_wp2_with fail
  go_still_tail 15, (by kernel_rfl)
  go_wp2_with fail
  go_end0
  have K : Keeps (· = d.gf) w (((w.setCell ⟨d.gf, i * 2, none⟩ (.int .i64 k)).setCell ⟨d.gf, i * 2 + 1, none⟩ (.int .i64 (now + t))).drew) := (((keep1 d.gf w).setCell _ (.inl rfl) _).setCell _ (.inl rfl) _).drew
  refine ⟨rfl, H.out.fate K ?_ ?_, K⟩
  · rw [flat_set fc_len (by omega)]; exact ((H.out.F.set_ (i * 2) _).set_ (i * 2 + 1) _).drew
  · rw [List.length_set]; exact H.out.lf
end
end Rob
end Go.Proofs.YtbgiegecfapmlaaGreatDoor
