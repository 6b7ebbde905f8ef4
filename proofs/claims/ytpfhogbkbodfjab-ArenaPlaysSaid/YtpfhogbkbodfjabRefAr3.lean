/- The reference's Arena: Put into a new place; conditions: at most 1000 places. -/
import Derived.Test.YtpfhogbkbodfjabRefAr2
import Derived.Test.YtpfhogbkbodfjabHeldU
namespace Go.Proofs.Ytpfhogbkbodfjab
open Go.RowKit
set_option linter.unusedVariables false
set_option linter.unusedSimpArgs false
namespace RefAr
open Ar
def Rows (s : Sh) (b : Nat) : Prop := ob s.A = some b ∨ ob s.G = some b ∨ ob s.V = some b
section
variable {w wc : World} {p room : Nat} {s : Sh} {ps : List Pl}
theorem At.rows_p {fr : List Nat} (h : At w p s room ps fr) : ¬ Rows s p := by
  rintro (hb | hb | hb)
  · exact type_blk (Has.of_own h.I) h.Bl (by decide) ((ob_eq _ _ _).trans hb)
  · exact type_blk (Has.of_own h.G) h.Bl (by decide) ((ob_eq _ _ _).trans hb)
  · exact type_blk (Has.of_own h.V) h.Bl (by decide) ((ob_eq _ _ _).trans hb)
theorem At.grown (h : At w p s room ps []) (KC : Keeps (Rows s) w wc) {A' G' V' : Option Addr} {a' g' v' : Nat} {v : ByteArray}
    (XI : wc.ownsRow 0 4 1 (.slice A' (ps.length + 1) a') (ps.length + 1) (ons ps ++ [.bool true])) (XG : wc.ownsRow 0 2 1 (.slice G' (ps.length + 1) g') (ps.length + 1) (gens ps ++ [.int .i64 1]))
    (XV : wc.ownsRow 0 9 1 (.slice V' (ps.length + 1) v') (ps.length + 1) (vals ps ++ [.string v])) :
    At (((wc.setCell ⟨p, 1, none⟩ (.slice A' (ps.length + 1) a')).setCell ⟨p, 2, none⟩ (.slice G' (ps.length + 1) g')).setCell ⟨p, 3, none⟩ (.slice V' (ps.length + 1) v')) p ⟨A', a', G', g', V', v', s.B, s.b⟩ room (ps ++ [⟨v, 1, true⟩]) [] := by
  have BC := h.Bl.kept KC h.rows_p
  have FC := h.F.kept KC (fun g _ _ hg hr => by
    rcases hr with hb | hb | hb
    · exact types_ne (Has.of_own h.I) h.F (by decide) ((ob_eq _ _ _).trans hb) hg
    · exact types_ne (Has.of_own h.G) h.F (by decide) ((ob_eq _ _ _).trans hb) hg
    · exact types_ne (Has.of_own h.V) h.F (by decide) ((ob_eq _ _ _).trans hb) hg)
  have k : Keeps (· = p) wc (((wc.setCell ⟨p, 1, none⟩ (.slice A' (ps.length + 1) a')).setCell ⟨p, 2, none⟩ (.slice G' (ps.length + 1) g')).setCell ⟨p, 3, none⟩ (.slice V' (ps.length + 1) v')) := (((keep1 p wc).setCell _ (.inl rfl) _).setCell _ (.inl rfl) _).setCell _ (.inl rfl) _
  have hl : (ps ++ [(⟨v, 1, true⟩ : Pl)]).length = ps.length + 1 := by simp
  refine ⟨?_, ?_, ?_, ?_, ?_⟩
  · rw [hl]; exact ((BC.set_ 1 _).set_ 2 _).set_ 3 _
  · rw [hl, show ons (ps ++ [(⟨v, 1, true⟩ : Pl)]) = ons ps ++ [.bool true] by simp [ons]]
    exact own_kept XI k (fun g _ _ hg e => type_blk (Has.of_own XI) BC (by decide) (hg.trans (congrArg some e)))
  · rw [hl, show gens (ps ++ [(⟨v, 1, true⟩ : Pl)]) = gens ps ++ [.int .i64 1] by simp [gens]]
    exact own_kept XG k (fun g _ _ hg e => type_blk (Has.of_own XG) BC (by decide) (hg.trans (congrArg some e)))
  · rw [hl, show vals (ps ++ [(⟨v, 1, true⟩ : Pl)]) = vals ps ++ [.string v] by simp [vals]]
    exact own_kept XV k (fun g _ _ hg e => type_blk (Has.of_own XV) BC (by decide) (hg.trans (congrArg some e)))
  · exact FC.kept k (fun g _ _ hg e => type_blk FC BC (by decide) (hg.trans (congrArg some e)))
theorem foot_grown {A' G' V' : Option Addr} {a' g' v' : Nat} (zI : ob A' = ob s.A ∨ ∃ b, ob A' = some b ∧ w.heap.size ≤ b) (zG : ob G' = ob s.G ∨ ∃ b, ob G' = some b ∧ w.heap.size ≤ b) (zV : ob V' = ob s.V ∨ ∃ b, ob V' = some b ∧ w.heap.size ≤ b) :
    ∀ q, Foot p ⟨A', a', G', g', V', v', s.B, s.b⟩ q → Foot p s q ∨ w.heap.size ≤ q := by
  rintro q (rfl | hq | hq | hq | hq)
  · exact .inl (.inl rfl)
  · rcases zI with z | ⟨b, z, hb⟩
    · exact .inl (.inr (.inl (z.symm.trans hq)))
    · have : some b = some q := z.symm.trans hq; injection this with this; exact .inr (this ▸ hb)
  · rcases zG with z | ⟨b, z, hb⟩
    · exact .inl (.inr (.inr (.inl (z.symm.trans hq))))
    · have : some b = some q := z.symm.trans hq; injection this with this; exact .inr (this ▸ hb)
  · rcases zV with z | ⟨b, z, hb⟩
    · exact .inl (.inr (.inr (.inr (.inl (z.symm.trans hq)))))
    · have : some b = some q := z.symm.trans hq; injection this with this; exact .inr (this ▸ hb)
  · exact .inl (.inr (.inr (.inr (.inr hq))))
theorem keeps_rows (KC : Keeps (Rows s) w wc) (x y z : Value) : Keeps (Foot p s) w (((wc.setCell ⟨p, 1, none⟩ x).setCell ⟨p, 2, none⟩ y).setCell ⟨p, 3, none⟩ z) :=
  (((KC.mono (S' := Foot p s) (fun b _ h => .inr (h.imp id (fun h => h.imp id .inl)))).setCell ⟨p, 1, none⟩ (.inl (.inl rfl)) x).setCell ⟨p, 2, none⟩ (.inl (.inl rfl)) y).setCell ⟨p, 3, none⟩ (.inl (.inl rfl)) z
end
set_option maxRecDepth 100000 in
set_option maxHeartbeats 40000000 in
theorem put_new (p : Nat) (s : Sh) (room : Nat) (ps : List Pl) (v : ByteArray) (w : World) (h : At w p s room ps []) (hr : ps.length < room) (hl : room ≤ 1000) :
    Calls Try.prog 37 #[.pointer (some ⟨p, 0, none⟩), .string v] w fun e w' => e = .returned (.tuple #[.int .i64 (ps.length : Int), .int .i64 1, .int .i64 0]) ∧ (∃ s', At w' p s' room (ps ++ [⟨v, 1, true⟩]) [] ∧ ∀ q, Foot p s' q → Foot p s q ∨ w.heap.size ≤ q) ∧ Keeps (Foot p s) w w' := by
  obtain ⟨iB, hB0, hB1, hB2, hB3⟩ := info_parts infoB
  obtain ⟨iL, hL0, hL1, hL2, hL3⟩ := info_parts infoL
  obtain ⟨iS, hS0', hS1, hS2, hS3⟩ := info_parts infoS
  have hS0 := hS0'
  have c0 := h.Bl.cellAt (i := 0) rfl
  have c1 := h.Bl.cellAt (i := 1) rfl
  have c2 := h.Bl.cellAt (i := 2) rfl
  have c3 := h.Bl.cellAt (i := 3) rfl
  have c4 := h.Bl.cellAt (i := 4) rfl
  have hne : (ps.length == room) = false := by simp; omega
  have hnd : decide (ps.length = room) = false := by simp; omega
  have hnd2 : decide ((ps.length : Int) = (room : Int)) = false := by simp; omega
  have hle : ps.length ≤ 999 := by omega
  have hw : IntKind.i64.wrap ((ps.length : Int) + 1 - 1) = (ps.length : Int) := by rw [IntWalk.i64_in _ (by omega)]; omega
  have HP := h.rows_p
  have HS : ∀ wr, Keeps (Rows s) w wr → (wr.cell? ⟨p, 1, none⟩ = some (.slice s.A ps.length s.a) ∧ wr.cell? ⟨p, 2, none⟩ = some (.slice s.G ps.length s.g) ∧ wr.cell? ⟨p, 3, none⟩ = some (.slice s.V ps.length s.v)) := fun wr k =>
    have B := h.Bl.kept k HP
    ⟨B.cellAt (i := 1) rfl, B.cellAt (i := 2) rfl, B.cellAt (i := 3) rfl⟩
  go_enter Try.func37, Try.ntmps37
  go_wp2_with fail
  go_quiet (fail)
  go_wp2_with fail
  generalize hw0 : w.drewN _ = w0
  have KC : Keeps (Rows s) w w0 := by rw [← hw0]; exact (Keeps.refl _ _).drewN _
  have k0 : Keeps (fun _ => False) w w0.drew := by rw [← hw0]; exact Keeps.drew ((Keeps.refl _ _).drewN _)
  have XI00 := own_kept h.I k0 (fun _ _ _ _ h => h)
  have XG00 := own_kept h.G k0 (fun _ _ _ _ h => h)
  have XV00 := own_kept h.V k0 (fun _ _ _ _ h => h)
  have KC00 : Keeps (Rows s) w w0.drew := KC.drew
  have HSS := HS _ KC00
  clear hw0 KC k0 c0 c1 c2 c3 c4
  refine wpU_begin (S := fun wr => wr.cell? ⟨p, 1, none⟩ = some (.slice s.A ps.length s.a) ∧ wr.cell? ⟨p, 2, none⟩ = some (.slice s.G ps.length s.g) ∧ wr.cell? ⟨p, 3, none⟩ = some (.slice s.V ps.length s.v)) (U := 24) (by kernel_rfl) ?_
  generalize w0.drew = w1 at *
  have XI1 := XI00
  have XG1 := XG00
  have XV1 := XV00
  have KC1 := KC00
  clear XI00 XG00 XV00 KC00
  refine wpU_take (i := 0) (oi := ⟨some 76, _, _, _, _, _⟩) (v := ?_) rfl (by kernel_rfl) (by kernel_rfl) (by kernel_rfl) (fun _ _ _ h => h) (by decide) (fun _ => HSS) (Or.inl ⟨by kernel_rfl, ?_⟩) ?_
  rotate_left
  · intro w hSw; go_simp; try with_reducible rfl
  rotate_left
  try simp only [Act.put, List.setIfInBounds_toArray, List.set_cons_zero, List.set_cons_succ]
  refine wpU_take (i := 1) (oi := ⟨some 77, _, _, _, _, _⟩) (v := ?_) rfl (by kernel_rfl) (by kernel_rfl) (by kernel_rfl) (fun _ _ _ h => h) (by decide) (fun _ => HSS) (Or.inl ⟨by kernel_rfl, ?_⟩) ?_
  rotate_left
  · intro w hSw; go_simp; try with_reducible rfl
  rotate_left
  try simp only [Act.put, List.setIfInBounds_toArray, List.set_cons_zero, List.set_cons_succ]
  refine wpU_take (i := 2) (oi := ⟨some 78, _, _, _, _, _⟩) (v := ?_) rfl (by kernel_rfl) (by kernel_rfl) (by kernel_rfl) (fun _ _ _ h => h) (by decide) (fun _ => HSS) (Or.inl ⟨by kernel_rfl, ?_⟩) ?_
  rotate_left
  · intro w hSw; go_simp; try with_reducible rfl
  rotate_left
  try simp only [Act.put, List.setIfInBounds_toArray, List.set_cons_zero, List.set_cons_succ]
  refine wpU_take (i := 3) (oi := ⟨some 79, _, _, _, _, _⟩) (v := ?_) rfl (by kernel_rfl) (by kernel_rfl) (by kernel_rfl) (fun _ _ _ h => h) (by decide) (fun _ => HSS) (Or.inl ⟨by kernel_rfl, ?_⟩) ?_
  rotate_left
  · intro w hSw; go_simp; try with_reducible rfl
  rotate_left
  try simp only [Act.put, List.setIfInBounds_toArray, List.set_cons_zero, List.set_cons_succ]
  refine wpU_take (i := 4) (oi := ⟨some 80, _, _, _, _, _⟩) (v := ?_) rfl (by kernel_rfl) (by kernel_rfl) (by kernel_rfl) (fun _ _ _ h => h) (by decide) (fun _ => HSS) (Or.inl ⟨by kernel_rfl, ?_⟩) ?_
  rotate_left
  · intro w hSw; go_simp; try with_reducible rfl
  rotate_left
  try simp only [Act.put, List.setIfInBounds_toArray, List.set_cons_zero, List.set_cons_succ]
  refine wpU_take (i := 5) (oi := ⟨some 81, _, _, _, _, _⟩) (v := ?_) rfl (by kernel_rfl) (by kernel_rfl) (by kernel_rfl) (fun _ _ _ h => h) (by decide) (fun _ => HSS) (Or.inl ⟨by kernel_rfl, ?_⟩) ?_
  rotate_left
  · intro w hSw; go_simp; try with_reducible rfl
  rotate_left
  try simp only [Act.put, List.setIfInBounds_toArray, List.set_cons_zero, List.set_cons_succ]
  refine wpU_take (i := 9) (oi := ⟨some 85, _, _, _, _, _⟩) (v := ?_) rfl (by kernel_rfl) (by kernel_rfl) (by kernel_rfl) (fun _ _ _ h => h) (by decide) (fun _ => HSS) (Or.inl ⟨by kernel_rfl, ?_⟩) ?_
  rotate_left
  · intro w hSw; go_simp; try with_reducible rfl
  rotate_left
  try simp only [Act.put, List.setIfInBounds_toArray, List.set_cons_zero, List.set_cons_succ]
  refine wpU_take (i := 10) (oi := ⟨some 86, _, _, _, _, _⟩) (v := ?_) rfl (by kernel_rfl) (by kernel_rfl) (by kernel_rfl) (fun _ _ _ h => h) (by decide) (fun _ => HSS) (Or.inl ⟨by kernel_rfl, ?_⟩) ?_
  rotate_left
  · intro w hSw; go_simp; try with_reducible rfl
  rotate_left
  try simp only [Act.put, List.setIfInBounds_toArray, List.set_cons_zero, List.set_cons_succ]
  refine wpU_take (i := 11) (oi := ⟨some 87, _, _, _, _, _⟩) (v := ?_) rfl (by kernel_rfl) (by kernel_rfl) (by kernel_rfl) (fun _ _ _ h => h) (by decide) (fun _ => HSS) (Or.inl ⟨by kernel_rfl, ?_⟩) ?_
  rotate_left
  · intro w hSw; go_simp; try with_reducible rfl
  rotate_left
  try simp only [Act.put, List.setIfInBounds_toArray, List.set_cons_zero, List.set_cons_succ]
  refine wpU_take (i := 15) (oi := ⟨some 91, _, _, _, _, _⟩) (v := ?_) rfl (by kernel_rfl) (by kernel_rfl) (by kernel_rfl) (fun _ _ _ h => h) (by decide) (fun _ => HSS) (Or.inl ⟨by kernel_rfl, ?_⟩) ?_
  rotate_left
  · intro w hSw; go_simp; try with_reducible rfl
  rotate_left
  try simp only [Act.put, List.setIfInBounds_toArray, List.set_cons_zero, List.set_cons_succ]
  refine wpU_take (i := 16) (oi := ⟨some 92, _, _, _, _, _⟩) (v := ?_) rfl (by kernel_rfl) (by kernel_rfl) (by kernel_rfl) (fun _ _ _ h => h) (by decide) (fun _ => HSS) (Or.inl ⟨by kernel_rfl, ?_⟩) ?_
  rotate_left
  · intro w hSw; go_simp; try with_reducible rfl
  rotate_left
  try simp only [Act.put, List.setIfInBounds_toArray, List.set_cons_zero, List.set_cons_succ]
  refine wpU_take (i := 17) (oi := ⟨some 93, _, _, _, _, _⟩) (v := ?_) rfl (by kernel_rfl) (by kernel_rfl) (by kernel_rfl) (fun _ _ _ h => h) (by decide) (fun _ => HSS) (Or.inl ⟨by kernel_rfl, ?_⟩) ?_
  rotate_left
  · intro w hSw; go_simp; try with_reducible rfl
  rotate_left
  try simp only [Act.put, List.setIfInBounds_toArray, List.set_cons_zero, List.set_cons_succ]
  refine wpU_take (i := 19) (oi := ⟨some 95, _, _, _, _, _⟩) (v := ?_) rfl (by kernel_rfl) (by kernel_rfl) (by kernel_rfl) (fun _ _ _ h => h) (by decide) (fun _ => HSS) (Or.inl ⟨by kernel_rfl, ?_⟩) ?_
  rotate_left
  · intro w hSw; go_simp; try with_reducible rfl
  rotate_left
  try simp only [Act.put, List.setIfInBounds_toArray, List.set_cons_zero, List.set_cons_succ]
  refine wpU_load (i := 6) (oi := ⟨some 82, _, _, _, _, _⟩) (v := ?_) rfl (by kernel_rfl) (by kernel_rfl) (by kernel_rfl) (fun _ _ _ h => h) (by decide) (by kernel_rfl) (by kernel_rfl) (Or.inl ⟨by kernel_rfl, ?_⟩) HSS ?_
  rotate_left
  · intro w hSw; (try dsimp only at hSw); obtain ⟨q1, q2, q3⟩ := hSw; go_simp; try with_reducible rfl
  rotate_left
  try simp only [Act.put, List.setIfInBounds_toArray, List.set_cons_zero, List.set_cons_succ]
  refine wpU_load (i := 12) (oi := ⟨some 88, _, _, _, _, _⟩) (v := ?_) rfl (by kernel_rfl) (by kernel_rfl) (by kernel_rfl) (fun _ _ _ h => h) (by decide) (by kernel_rfl) (by kernel_rfl) (Or.inl ⟨by kernel_rfl, ?_⟩) HSS ?_
  rotate_left
  · intro w hSw; (try dsimp only at hSw); obtain ⟨q1, q2, q3⟩ := hSw; go_simp; try with_reducible rfl
  rotate_left
  try simp only [Act.put, List.setIfInBounds_toArray, List.set_cons_zero, List.set_cons_succ]
  refine wpU_load (i := 18) (oi := ⟨some 94, _, _, _, _, _⟩) (v := ?_) rfl (by kernel_rfl) (by kernel_rfl) (by kernel_rfl) (fun _ _ _ h => h) (by decide) (by kernel_rfl) (by kernel_rfl) (Or.inl ⟨by kernel_rfl, ?_⟩) HSS ?_
  rotate_left
  · intro w hSw; (try dsimp only at hSw); obtain ⟨q1, q2, q3⟩ := hSw; go_simp; try with_reducible rfl
  rotate_left
  try simp only [Act.put, List.setIfInBounds_toArray, List.set_cons_zero, List.set_cons_succ]
  refine wpU_ready (rs := [7, 13, 20]) (by kernel_rfl) (by simp) ?_
  refine (AllReadyU.cons (o := ⟨some 83, _, _, _, _, _⟩) rfl (fun K hK => ?_) (AllReadyU.cons (o := ⟨some 89, _, _, _, _, _⟩) rfl (fun K hK => ?_) (AllReadyU.cons (o := ⟨some 96, _, _, _, _, _⟩) rfl (fun K hK => ?_) AllReadyU.nil)))
  · skip
    go_simp
    have kA := (Keeps.refl (fun _ => False) w1).alloc (.cells #[.bool true] 4)
    have XI2 := own_kept XI1 kA (fun _ _ _ _ h => h)
    have XG2 := own_kept XG1 kA (fun _ _ _ _ h => h)
    have XV2 := own_kept XV1 kA (fun _ _ _ _ h => h)
    have NI2 := Has.box w1 4 1 1 [.bool true] rfl (by unfold maxLen; omega)
    have KC2 := KC1.alloc (.cells #[.bool true] 4)
    dsimp only [List.toArray] at NI2
    generalize w1.alloc (.cells #[.bool true] 4) = w2 at *
    refine hK.out _ _ (fun _ => HS _ KC2) ?_
    clear hK K
    try simp only [Act.put, List.setIfInBounds_toArray, List.set_cons_zero, List.set_cons_succ]
    refine wpU_ready (rs := [8, 13, 20]) (by kernel_rfl) (by simp) ?_
    refine (AllReadyU.cons (o := ⟨some 84, _, _, _, _, _⟩) rfl (fun K hK => ?_) (AllReadyU.cons (o := ⟨some 89, _, _, _, _, _⟩) rfl (fun K hK => ?_) (AllReadyU.cons (o := ⟨some 96, _, _, _, _, _⟩) rfl (fun K hK => ?_) AllReadyU.nil)))
    · skip
      refine step_append_has rfl (.tmp 82) (.tmp 83) 32 rfl iB _ 1 Try.underlying32 hB0 hB1 hB2 hB3 rfl (by omega) (by simp [Act.eval, Act.put]) XI2 (some ⟨w1.heap.size, 0, none⟩) 1 1 [.bool true] (by simp [Act.eval, Act.put]) NI2 (by intro u hu; simp at hu; subst hu; rfl) (by unfold maxLen; omega) (by omega) (Nat.zero_le _) ?_
      intro v3 w3 XI3 g3 at3
      obtain ⟨An, an, hv⟩ := own_shape XI3
      subst hv
      have kk : Keeps (fun b => (Value.slice s.A ps.length s.a).ownBlock = some b) w2 w3 := keeps_grown (Keeps.refl _ _) g3 (fun g h => .inl h)
      have XG3 := own_kept XG2 kk (fun g _ _ hg hs => types_ne (Has.of_own XI2) (Has.of_own XG2) (by decide) hs hg)
      have XV3 := own_kept XV2 kk (fun g _ _ hg hs => types_ne (Has.of_own XI2) (Has.of_own XV2) (by decide) hs hg)
      have KC3 : Keeps (Rows s) w w3 := keeps_grown KC2 g3 (fun g h => .inl (.inl ((ob_eq s.A ps.length s.a).symm.trans h)))
      have zI : ob An = ob s.A ∨ ∃ b, ob An = some b ∧ w.heap.size ≤ b := at3.imp (fun h => (ob_eq _ _ _).symm.trans (h.trans (ob_eq _ _ _))) (fun h => ⟨_, (ob_eq _ _ _).symm.trans h, KC2.size⟩)
      clear g3 at3 kk
      refine hK.out _ _ (fun _ => HS _ KC3) ?_
      clear hK K
      try simp only [Act.put, List.setIfInBounds_toArray, List.set_cons_zero, List.set_cons_succ]
      refine wpU_ready (rs := [13, 20]) (by kernel_rfl) (by simp) ?_
      refine (AllReadyU.cons (o := ⟨some 89, _, _, _, _, _⟩) rfl (fun K hK => ?_) (AllReadyU.cons (o := ⟨some 96, _, _, _, _, _⟩) rfl (fun K hK => ?_) AllReadyU.nil))
      · skip
        go_simp
        have kA := (Keeps.refl (fun _ => False) w3).alloc (.cells #[.int .i64 1] 2)
        have XI4 := own_kept XI3 kA (fun _ _ _ _ h => h)
        have XG4 := own_kept XG3 kA (fun _ _ _ _ h => h)
        have XV4 := own_kept XV3 kA (fun _ _ _ _ h => h)
        have NG4 := Has.box w3 2 1 1 [.int .i64 1] rfl (by unfold maxLen; omega)
        have KC4 := KC3.alloc (.cells #[.int .i64 1] 2)
        dsimp only [List.toArray] at NG4
        generalize w3.alloc (.cells #[.int .i64 1] 2) = w4 at *
        refine hK.out _ _ (fun _ => HS _ KC4) ?_
        clear hK K
        try simp only [Act.put, List.setIfInBounds_toArray, List.set_cons_zero, List.set_cons_succ]
        refine wpU_ready (rs := [14, 20]) (by kernel_rfl) (by simp) ?_
        refine (AllReadyU.cons (o := ⟨some 90, _, _, _, _, _⟩) rfl (fun K hK => ?_) (AllReadyU.cons (o := ⟨some 96, _, _, _, _, _⟩) rfl (fun K hK => ?_) AllReadyU.nil))
        · skip
          refine step_append_has rfl (.tmp 88) (.tmp 89) 56 rfl iL _ 8 Try.underlying56 hL0 hL1 hL2 hL3 rfl (by omega) (by simp [Act.eval, Act.put]) XG4 (some ⟨w3.heap.size, 0, none⟩) 1 1 [.int .i64 1] (by simp [Act.eval, Act.put]) NG4 (by intro u hu; simp at hu; subst hu; rfl) (by unfold maxLen; omega) (by omega) (Nat.zero_le _) ?_
          intro v5 w5 XG5 g5 at5
          obtain ⟨Gn, gn, hv⟩ := own_shape XG5
          subst hv
          have kk : Keeps (fun b => (Value.slice s.G ps.length s.g).ownBlock = some b) w4 w5 := keeps_grown (Keeps.refl _ _) g5 (fun g h => .inl h)
          have XI5 := own_kept XI4 kk (fun g _ _ hg hs => types_ne (Has.of_own XG4) (Has.of_own XI4) (by decide) hs hg)
          have XV5 := own_kept XV4 kk (fun g _ _ hg hs => types_ne (Has.of_own XG4) (Has.of_own XV4) (by decide) hs hg)
          have KC5 : Keeps (Rows s) w w5 := keeps_grown KC4 g5 (fun g h => .inl (.inr (.inl ((ob_eq s.G ps.length s.g).symm.trans h))))
          have zG : ob Gn = ob s.G ∨ ∃ b, ob Gn = some b ∧ w.heap.size ≤ b := at5.imp (fun h => (ob_eq _ _ _).symm.trans (h.trans (ob_eq _ _ _))) (fun h => ⟨_, (ob_eq _ _ _).symm.trans h, KC4.size⟩)
          clear g5 at5 kk
          refine hK.out _ _ (fun _ => HS _ KC5) ?_
          clear hK K
          try simp only [Act.put, List.setIfInBounds_toArray, List.set_cons_zero, List.set_cons_succ]
          refine wpU_ready (rs := [20]) (by kernel_rfl) (by simp) ?_
          refine (AllReadyU.cons (o := ⟨some 96, _, _, _, _, _⟩) rfl (fun K hK => ?_) AllReadyU.nil)
          · skip
            go_simp
            have kA := (Keeps.refl (fun _ => False) w5).alloc (.cells #[.string v] 9)
            have XI6 := own_kept XI5 kA (fun _ _ _ _ h => h)
            have XG6 := own_kept XG5 kA (fun _ _ _ _ h => h)
            have XV6 := own_kept XV5 kA (fun _ _ _ _ h => h)
            have NV6 := Has.box w5 9 1 1 [.string v] rfl (by unfold maxLen; omega)
            have KC6 := KC5.alloc (.cells #[.string v] 9)
            dsimp only [List.toArray] at NV6
            generalize w5.alloc (.cells #[.string v] 9) = w6 at *
            refine hK.out _ _ (fun _ => HS _ KC6) ?_
            clear hK K
            try simp only [Act.put, List.setIfInBounds_toArray, List.set_cons_zero, List.set_cons_succ]
            refine wpU_ready (rs := [21]) (by kernel_rfl) (by simp) ?_
            refine (AllReadyU.cons (o := ⟨some 97, _, _, _, _, _⟩) rfl (fun K hK => ?_) AllReadyU.nil)
            · skip
              refine step_append_has rfl (.tmp 94) (.tmp 96) 57 rfl iS _ 16 Try.underlying57 hS0 hS1 hS2 hS3 rfl (by omega) (by simp [Act.eval, Act.put]) XV6 (some ⟨w5.heap.size, 0, none⟩) 1 1 [.string v] (by simp [Act.eval, Act.put]) NV6 (by intro u hu; simp at hu; subst hu; rfl) (by unfold maxLen; omega) (by omega) (Nat.zero_le _) ?_
              intro v7 w7 XV7 g7 at7
              obtain ⟨Vn, vn, hv⟩ := own_shape XV7
              subst hv
              have kk : Keeps (fun b => (Value.slice s.V ps.length s.v).ownBlock = some b) w6 w7 := keeps_grown (Keeps.refl _ _) g7 (fun g h => .inl h)
              have XI7 := own_kept XI6 kk (fun g _ _ hg hs => types_ne (Has.of_own XV6) (Has.of_own XI6) (by decide) hs hg)
              have XG7 := own_kept XG6 kk (fun g _ _ hg hs => types_ne (Has.of_own XV6) (Has.of_own XG6) (by decide) hs hg)
              have KC7 : Keeps (Rows s) w w7 := keeps_grown KC6 g7 (fun g h => .inl (.inr (.inr ((ob_eq s.V ps.length s.v).symm.trans h))))
              have zV : ob Vn = ob s.V ∨ ∃ b, ob Vn = some b ∧ w.heap.size ≤ b := at7.imp (fun h => (ob_eq _ _ _).symm.trans (h.trans (ob_eq _ _ _))) (fun h => ⟨_, (ob_eq _ _ _).symm.trans h, KC6.size⟩)
              clear g7 at7 kk
              refine hK.out _ _ (fun _ => HS _ KC7) ?_
              clear hK K
              try simp only [Act.put, List.setIfInBounds_toArray, List.set_cons_zero, List.set_cons_succ]
              refine wpU_take (i := 22) (oi := ⟨some 98, _, _, _, _, _⟩) (v := ?_) rfl (by kernel_rfl) (by kernel_rfl) (by kernel_rfl) (fun _ _ _ h => h) (by decide) (fun _ => HS _ KC7) (Or.inl ⟨by kernel_rfl, ?_⟩) ?_
              rotate_left
              · intro w hSw; go_simp; try with_reducible rfl
              rotate_left
              try simp only [Act.put, List.setIfInBounds_toArray, List.set_cons_zero, List.set_cons_succ]
              refine wpU_take (i := 23) (oi := ⟨some 99, _, _, _, _, _⟩) (v := ?_) rfl (by kernel_rfl) (by kernel_rfl) (by kernel_rfl) (fun _ _ _ h => h) (by decide) (fun _ => HS _ KC7) (Or.inl ⟨by kernel_rfl, ?_⟩) ?_
              rotate_left
              · intro w hSw; go_simp; try with_reducible rfl
              rotate_left
              try simp only [Act.put, List.setIfInBounds_toArray, List.set_cons_zero, List.set_cons_succ]
              have BC0 := h.Bl.kept KC7 HP
              have bc0 := BC0.cellAt (i := 1) rfl
              have fc0 := BC0.frozen
              refine wpU_ready (rs := [24]) (by kernel_rfl) (by simp) ?_
              refine AllReadyU.cons (o := ⟨none, _, _, _, _, _⟩) rfl (fun K hK => ?_) AllReadyU.nil
              go_simp
              refine hK.out _ _ (fun h => absurd h (by decide)) ?_
              clear hK K
              try simp only [Act.put, List.setIfInBounds_toArray, List.set_cons_zero, List.set_cons_succ]
              have BC1 := BC0.set_ 1 (.slice An (ps.length + 1) an)
              refine wpU_take (i := 25) (oi := ⟨some 100, _, _, _, _, _⟩) (v := ?_) rfl (by kernel_rfl) (by kernel_rfl) (by kernel_rfl) (fun _ _ _ h => h) (by decide) (fun h => absurd h (by decide)) (Or.inl ⟨by kernel_rfl, ?_⟩) ?_
              rotate_left
              · intro w hSw; go_simp; try with_reducible rfl
              rotate_left
              try simp only [Act.put, List.setIfInBounds_toArray, List.set_cons_zero, List.set_cons_succ]
              refine wpU_take (i := 26) (oi := ⟨some 101, _, _, _, _, _⟩) (v := ?_) rfl (by kernel_rfl) (by kernel_rfl) (by kernel_rfl) (fun _ _ _ h => h) (by decide) (fun h => absurd h (by decide)) (Or.inl ⟨by kernel_rfl, ?_⟩) ?_
              rotate_left
              · intro w hSw; go_simp; try with_reducible rfl
              rotate_left
              try simp only [Act.put, List.setIfInBounds_toArray, List.set_cons_zero, List.set_cons_succ]
              have bc1 := BC1.cellAt (i := 2) rfl
              have fc1 := BC1.frozen
              refine wpU_ready (rs := [27]) (by kernel_rfl) (by simp) ?_
              refine AllReadyU.cons (o := ⟨none, _, _, _, _, _⟩) rfl (fun K hK => ?_) AllReadyU.nil
              go_simp
              refine hK.out _ _ (fun h => absurd h (by decide)) ?_
              clear hK K
              try simp only [Act.put, List.setIfInBounds_toArray, List.set_cons_zero, List.set_cons_succ]
              have BC2 := BC1.set_ 2 (.slice Gn (ps.length + 1) gn)
              refine wpU_take (i := 28) (oi := ⟨some 102, _, _, _, _, _⟩) (v := ?_) rfl (by kernel_rfl) (by kernel_rfl) (by kernel_rfl) (fun _ _ _ h => h) (by decide) (fun h => absurd h (by decide)) (Or.inl ⟨by kernel_rfl, ?_⟩) ?_
              rotate_left
              · intro w hSw; go_simp; try with_reducible rfl
              rotate_left
              try simp only [Act.put, List.setIfInBounds_toArray, List.set_cons_zero, List.set_cons_succ]
              refine wpU_take (i := 29) (oi := ⟨some 103, _, _, _, _, _⟩) (v := ?_) rfl (by kernel_rfl) (by kernel_rfl) (by kernel_rfl) (fun _ _ _ h => h) (by decide) (fun h => absurd h (by decide)) (Or.inl ⟨by kernel_rfl, ?_⟩) ?_
              rotate_left
              · intro w hSw; go_simp; try with_reducible rfl
              rotate_left
              try simp only [Act.put, List.setIfInBounds_toArray, List.set_cons_zero, List.set_cons_succ]
              have bc2 := BC2.cellAt (i := 3) rfl
              have fc2 := BC2.frozen
              refine wpU_ready (rs := [30]) (by kernel_rfl) (by simp) ?_
              refine AllReadyU.cons (o := ⟨none, _, _, _, _, _⟩) rfl (fun K hK => ?_) AllReadyU.nil
              go_simp
              refine hK.out _ _ (fun h => absurd h (by decide)) ?_
              clear hK K
              try simp only [Act.put, List.setIfInBounds_toArray, List.set_cons_zero, List.set_cons_succ]
              have BC3 := BC2.set_ 3 (.slice Vn (ps.length + 1) vn)
              refine wpU_done (by kernel_rfl) ?_ _
              have d3 := BC3.cellAt (i := 3) rfl
              go_wp2_with fail
              exact bodyPost_ret (v := .tuple #[.int .i64 (ps.length : Int), .int .i64 1, .int .i64 0]) (by simp [results, Try.results37, go_sem, hw]) rfl ⟨rfl, ⟨⟨An, an, Gn, gn, Vn, vn, s.B, s.b⟩, h.grown KC7 XI7 XG7 XV7, foot_grown zI zG zV⟩, keeps_rows KC7 _ _ _⟩
        · skip
          go_simp
          have kA := (Keeps.refl (fun _ => False) w4).alloc (.cells #[.string v] 9)
          have XI5 := own_kept XI4 kA (fun _ _ _ _ h => h)
          have XG5 := own_kept XG4 kA (fun _ _ _ _ h => h)
          have XV5 := own_kept XV4 kA (fun _ _ _ _ h => h)
          have NG5 := NG4.kept kA (fun _ _ _ _ h => h)
          have NV5 := Has.box w4 9 1 1 [.string v] rfl (by unfold maxLen; omega)
          have KC5 := KC4.alloc (.cells #[.string v] 9)
          dsimp only [List.toArray] at NV5
          generalize w4.alloc (.cells #[.string v] 9) = w5 at *
          refine hK.out _ _ (fun _ => HS _ KC5) ?_
          clear hK K
          try simp only [Act.put, List.setIfInBounds_toArray, List.set_cons_zero, List.set_cons_succ]
          refine wpU_ready (rs := [14]) (by kernel_rfl) (by simp) ?_
          refine (AllReadyU.cons (o := ⟨some 90, _, _, _, _, _⟩) rfl (fun K hK => ?_) AllReadyU.nil)
          · skip
            refine step_append_has rfl (.tmp 88) (.tmp 89) 56 rfl iL _ 8 Try.underlying56 hL0 hL1 hL2 hL3 rfl (by omega) (by simp [Act.eval, Act.put]) XG5 (some ⟨w3.heap.size, 0, none⟩) 1 1 [.int .i64 1] (by simp [Act.eval, Act.put]) NG5 (by intro u hu; simp at hu; subst hu; rfl) (by unfold maxLen; omega) (by omega) (Nat.zero_le _) ?_
            intro v6 w6 XG6 g6 at6
            obtain ⟨Gn, gn, hv⟩ := own_shape XG6
            subst hv
            have kk : Keeps (fun b => (Value.slice s.G ps.length s.g).ownBlock = some b) w5 w6 := keeps_grown (Keeps.refl _ _) g6 (fun g h => .inl h)
            have XI6 := own_kept XI5 kk (fun g _ _ hg hs => types_ne (Has.of_own XG5) (Has.of_own XI5) (by decide) hs hg)
            have XV6 := own_kept XV5 kk (fun g _ _ hg hs => types_ne (Has.of_own XG5) (Has.of_own XV5) (by decide) hs hg)
            have NV6 := NV5.kept kk (fun g _ _ hg hs => types_ne (Has.of_own XG5) NV5 (by decide) hs hg)
            have KC6 : Keeps (Rows s) w w6 := keeps_grown KC5 g6 (fun g h => .inl (.inr (.inl ((ob_eq s.G ps.length s.g).symm.trans h))))
            have zG : ob Gn = ob s.G ∨ ∃ b, ob Gn = some b ∧ w.heap.size ≤ b := at6.imp (fun h => (ob_eq _ _ _).symm.trans (h.trans (ob_eq _ _ _))) (fun h => ⟨_, (ob_eq _ _ _).symm.trans h, KC5.size⟩)
            clear g6 at6 kk
            refine hK.out _ _ (fun _ => HS _ KC6) ?_
            clear hK K
            try simp only [Act.put, List.setIfInBounds_toArray, List.set_cons_zero, List.set_cons_succ]
            refine wpU_ready (rs := [21]) (by kernel_rfl) (by simp) ?_
            refine (AllReadyU.cons (o := ⟨some 97, _, _, _, _, _⟩) rfl (fun K hK => ?_) AllReadyU.nil)
            · skip
              refine step_append_has rfl (.tmp 94) (.tmp 96) 57 rfl iS _ 16 Try.underlying57 hS0 hS1 hS2 hS3 rfl (by omega) (by simp [Act.eval, Act.put]) XV6 (some ⟨w4.heap.size, 0, none⟩) 1 1 [.string v] (by simp [Act.eval, Act.put]) NV6 (by intro u hu; simp at hu; subst hu; rfl) (by unfold maxLen; omega) (by omega) (Nat.zero_le _) ?_
              intro v7 w7 XV7 g7 at7
              obtain ⟨Vn, vn, hv⟩ := own_shape XV7
              subst hv
              have kk : Keeps (fun b => (Value.slice s.V ps.length s.v).ownBlock = some b) w6 w7 := keeps_grown (Keeps.refl _ _) g7 (fun g h => .inl h)
              have XI7 := own_kept XI6 kk (fun g _ _ hg hs => types_ne (Has.of_own XV6) (Has.of_own XI6) (by decide) hs hg)
              have XG7 := own_kept XG6 kk (fun g _ _ hg hs => types_ne (Has.of_own XV6) (Has.of_own XG6) (by decide) hs hg)
              have KC7 : Keeps (Rows s) w w7 := keeps_grown KC6 g7 (fun g h => .inl (.inr (.inr ((ob_eq s.V ps.length s.v).symm.trans h))))
              have zV : ob Vn = ob s.V ∨ ∃ b, ob Vn = some b ∧ w.heap.size ≤ b := at7.imp (fun h => (ob_eq _ _ _).symm.trans (h.trans (ob_eq _ _ _))) (fun h => ⟨_, (ob_eq _ _ _).symm.trans h, KC6.size⟩)
              clear g7 at7 kk
              refine hK.out _ _ (fun _ => HS _ KC7) ?_
              clear hK K
              try simp only [Act.put, List.setIfInBounds_toArray, List.set_cons_zero, List.set_cons_succ]
              refine wpU_take (i := 22) (oi := ⟨some 98, _, _, _, _, _⟩) (v := ?_) rfl (by kernel_rfl) (by kernel_rfl) (by kernel_rfl) (fun _ _ _ h => h) (by decide) (fun _ => HS _ KC7) (Or.inl ⟨by kernel_rfl, ?_⟩) ?_
              rotate_left
              · intro w hSw; go_simp; try with_reducible rfl
              rotate_left
              try simp only [Act.put, List.setIfInBounds_toArray, List.set_cons_zero, List.set_cons_succ]
              refine wpU_take (i := 23) (oi := ⟨some 99, _, _, _, _, _⟩) (v := ?_) rfl (by kernel_rfl) (by kernel_rfl) (by kernel_rfl) (fun _ _ _ h => h) (by decide) (fun _ => HS _ KC7) (Or.inl ⟨by kernel_rfl, ?_⟩) ?_
              rotate_left
              · intro w hSw; go_simp; try with_reducible rfl
              rotate_left
              try simp only [Act.put, List.setIfInBounds_toArray, List.set_cons_zero, List.set_cons_succ]
              have BC0 := h.Bl.kept KC7 HP
              have bc0 := BC0.cellAt (i := 1) rfl
              have fc0 := BC0.frozen
              refine wpU_ready (rs := [24]) (by kernel_rfl) (by simp) ?_
              refine AllReadyU.cons (o := ⟨none, _, _, _, _, _⟩) rfl (fun K hK => ?_) AllReadyU.nil
              go_simp
              refine hK.out _ _ (fun h => absurd h (by decide)) ?_
              clear hK K
              try simp only [Act.put, List.setIfInBounds_toArray, List.set_cons_zero, List.set_cons_succ]
              have BC1 := BC0.set_ 1 (.slice An (ps.length + 1) an)
              refine wpU_take (i := 25) (oi := ⟨some 100, _, _, _, _, _⟩) (v := ?_) rfl (by kernel_rfl) (by kernel_rfl) (by kernel_rfl) (fun _ _ _ h => h) (by decide) (fun h => absurd h (by decide)) (Or.inl ⟨by kernel_rfl, ?_⟩) ?_
              rotate_left
              · intro w hSw; go_simp; try with_reducible rfl
              rotate_left
              try simp only [Act.put, List.setIfInBounds_toArray, List.set_cons_zero, List.set_cons_succ]
              refine wpU_take (i := 26) (oi := ⟨some 101, _, _, _, _, _⟩) (v := ?_) rfl (by kernel_rfl) (by kernel_rfl) (by kernel_rfl) (fun _ _ _ h => h) (by decide) (fun h => absurd h (by decide)) (Or.inl ⟨by kernel_rfl, ?_⟩) ?_
              rotate_left
              · intro w hSw; go_simp; try with_reducible rfl
              rotate_left
              try simp only [Act.put, List.setIfInBounds_toArray, List.set_cons_zero, List.set_cons_succ]
              have bc1 := BC1.cellAt (i := 2) rfl
              have fc1 := BC1.frozen
              refine wpU_ready (rs := [27]) (by kernel_rfl) (by simp) ?_
              refine AllReadyU.cons (o := ⟨none, _, _, _, _, _⟩) rfl (fun K hK => ?_) AllReadyU.nil
              go_simp
              refine hK.out _ _ (fun h => absurd h (by decide)) ?_
              clear hK K
              try simp only [Act.put, List.setIfInBounds_toArray, List.set_cons_zero, List.set_cons_succ]
              have BC2 := BC1.set_ 2 (.slice Gn (ps.length + 1) gn)
              refine wpU_take (i := 28) (oi := ⟨some 102, _, _, _, _, _⟩) (v := ?_) rfl (by kernel_rfl) (by kernel_rfl) (by kernel_rfl) (fun _ _ _ h => h) (by decide) (fun h => absurd h (by decide)) (Or.inl ⟨by kernel_rfl, ?_⟩) ?_
              rotate_left
              · intro w hSw; go_simp; try with_reducible rfl
              rotate_left
              try simp only [Act.put, List.setIfInBounds_toArray, List.set_cons_zero, List.set_cons_succ]
              refine wpU_take (i := 29) (oi := ⟨some 103, _, _, _, _, _⟩) (v := ?_) rfl (by kernel_rfl) (by kernel_rfl) (by kernel_rfl) (fun _ _ _ h => h) (by decide) (fun h => absurd h (by decide)) (Or.inl ⟨by kernel_rfl, ?_⟩) ?_
              rotate_left
              · intro w hSw; go_simp; try with_reducible rfl
              rotate_left
              try simp only [Act.put, List.setIfInBounds_toArray, List.set_cons_zero, List.set_cons_succ]
              have bc2 := BC2.cellAt (i := 3) rfl
              have fc2 := BC2.frozen
              refine wpU_ready (rs := [30]) (by kernel_rfl) (by simp) ?_
              refine AllReadyU.cons (o := ⟨none, _, _, _, _, _⟩) rfl (fun K hK => ?_) AllReadyU.nil
              go_simp
              refine hK.out _ _ (fun h => absurd h (by decide)) ?_
              clear hK K
              try simp only [Act.put, List.setIfInBounds_toArray, List.set_cons_zero, List.set_cons_succ]
              have BC3 := BC2.set_ 3 (.slice Vn (ps.length + 1) vn)
              refine wpU_done (by kernel_rfl) ?_ _
              have d3 := BC3.cellAt (i := 3) rfl
              go_wp2_with fail
              exact bodyPost_ret (v := .tuple #[.int .i64 (ps.length : Int), .int .i64 1, .int .i64 0]) (by simp [results, Try.results37, go_sem, hw]) rfl ⟨rfl, ⟨⟨An, an, Gn, gn, Vn, vn, s.B, s.b⟩, h.grown KC7 XI7 XG7 XV7, foot_grown zI zG zV⟩, keeps_rows KC7 _ _ _⟩
      · skip
        go_simp
        have kA := (Keeps.refl (fun _ => False) w3).alloc (.cells #[.string v] 9)
        have XI4 := own_kept XI3 kA (fun _ _ _ _ h => h)
        have XG4 := own_kept XG3 kA (fun _ _ _ _ h => h)
        have XV4 := own_kept XV3 kA (fun _ _ _ _ h => h)
        have NV4 := Has.box w3 9 1 1 [.string v] rfl (by unfold maxLen; omega)
        have KC4 := KC3.alloc (.cells #[.string v] 9)
        dsimp only [List.toArray] at NV4
        generalize w3.alloc (.cells #[.string v] 9) = w4 at *
        refine hK.out _ _ (fun _ => HS _ KC4) ?_
        clear hK K
        try simp only [Act.put, List.setIfInBounds_toArray, List.set_cons_zero, List.set_cons_succ]
        refine wpU_ready (rs := [13]) (by kernel_rfl) (by simp) ?_
        refine (AllReadyU.cons (o := ⟨some 89, _, _, _, _, _⟩) rfl (fun K hK => ?_) AllReadyU.nil)
        · skip
          go_simp
          have kA := (Keeps.refl (fun _ => False) w4).alloc (.cells #[.int .i64 1] 2)
          have XI5 := own_kept XI4 kA (fun _ _ _ _ h => h)
          have XG5 := own_kept XG4 kA (fun _ _ _ _ h => h)
          have XV5 := own_kept XV4 kA (fun _ _ _ _ h => h)
          have NV5 := NV4.kept kA (fun _ _ _ _ h => h)
          have NG5 := Has.box w4 2 1 1 [.int .i64 1] rfl (by unfold maxLen; omega)
          have KC5 := KC4.alloc (.cells #[.int .i64 1] 2)
          dsimp only [List.toArray] at NG5
          generalize w4.alloc (.cells #[.int .i64 1] 2) = w5 at *
          refine hK.out _ _ (fun _ => HS _ KC5) ?_
          clear hK K
          try simp only [Act.put, List.setIfInBounds_toArray, List.set_cons_zero, List.set_cons_succ]
          refine wpU_ready (rs := [14]) (by kernel_rfl) (by simp) ?_
          refine (AllReadyU.cons (o := ⟨some 90, _, _, _, _, _⟩) rfl (fun K hK => ?_) AllReadyU.nil)
          · skip
            refine step_append_has rfl (.tmp 88) (.tmp 89) 56 rfl iL _ 8 Try.underlying56 hL0 hL1 hL2 hL3 rfl (by omega) (by simp [Act.eval, Act.put]) XG5 (some ⟨w4.heap.size, 0, none⟩) 1 1 [.int .i64 1] (by simp [Act.eval, Act.put]) NG5 (by intro u hu; simp at hu; subst hu; rfl) (by unfold maxLen; omega) (by omega) (Nat.zero_le _) ?_
            intro v6 w6 XG6 g6 at6
            obtain ⟨Gn, gn, hv⟩ := own_shape XG6
            subst hv
            have kk : Keeps (fun b => (Value.slice s.G ps.length s.g).ownBlock = some b) w5 w6 := keeps_grown (Keeps.refl _ _) g6 (fun g h => .inl h)
            have XI6 := own_kept XI5 kk (fun g _ _ hg hs => types_ne (Has.of_own XG5) (Has.of_own XI5) (by decide) hs hg)
            have XV6 := own_kept XV5 kk (fun g _ _ hg hs => types_ne (Has.of_own XG5) (Has.of_own XV5) (by decide) hs hg)
            have NV6 := NV5.kept kk (fun g _ _ hg hs => types_ne (Has.of_own XG5) NV5 (by decide) hs hg)
            have KC6 : Keeps (Rows s) w w6 := keeps_grown KC5 g6 (fun g h => .inl (.inr (.inl ((ob_eq s.G ps.length s.g).symm.trans h))))
            have zG : ob Gn = ob s.G ∨ ∃ b, ob Gn = some b ∧ w.heap.size ≤ b := at6.imp (fun h => (ob_eq _ _ _).symm.trans (h.trans (ob_eq _ _ _))) (fun h => ⟨_, (ob_eq _ _ _).symm.trans h, KC5.size⟩)
            clear g6 at6 kk
            refine hK.out _ _ (fun _ => HS _ KC6) ?_
            clear hK K
            try simp only [Act.put, List.setIfInBounds_toArray, List.set_cons_zero, List.set_cons_succ]
            refine wpU_ready (rs := [21]) (by kernel_rfl) (by simp) ?_
            refine (AllReadyU.cons (o := ⟨some 97, _, _, _, _, _⟩) rfl (fun K hK => ?_) AllReadyU.nil)
            · skip
              refine step_append_has rfl (.tmp 94) (.tmp 96) 57 rfl iS _ 16 Try.underlying57 hS0 hS1 hS2 hS3 rfl (by omega) (by simp [Act.eval, Act.put]) XV6 (some ⟨w3.heap.size, 0, none⟩) 1 1 [.string v] (by simp [Act.eval, Act.put]) NV6 (by intro u hu; simp at hu; subst hu; rfl) (by unfold maxLen; omega) (by omega) (Nat.zero_le _) ?_
              intro v7 w7 XV7 g7 at7
              obtain ⟨Vn, vn, hv⟩ := own_shape XV7
              subst hv
              have kk : Keeps (fun b => (Value.slice s.V ps.length s.v).ownBlock = some b) w6 w7 := keeps_grown (Keeps.refl _ _) g7 (fun g h => .inl h)
              have XI7 := own_kept XI6 kk (fun g _ _ hg hs => types_ne (Has.of_own XV6) (Has.of_own XI6) (by decide) hs hg)
              have XG7 := own_kept XG6 kk (fun g _ _ hg hs => types_ne (Has.of_own XV6) (Has.of_own XG6) (by decide) hs hg)
              have KC7 : Keeps (Rows s) w w7 := keeps_grown KC6 g7 (fun g h => .inl (.inr (.inr ((ob_eq s.V ps.length s.v).symm.trans h))))
              have zV : ob Vn = ob s.V ∨ ∃ b, ob Vn = some b ∧ w.heap.size ≤ b := at7.imp (fun h => (ob_eq _ _ _).symm.trans (h.trans (ob_eq _ _ _))) (fun h => ⟨_, (ob_eq _ _ _).symm.trans h, KC6.size⟩)
              clear g7 at7 kk
              refine hK.out _ _ (fun _ => HS _ KC7) ?_
              clear hK K
              try simp only [Act.put, List.setIfInBounds_toArray, List.set_cons_zero, List.set_cons_succ]
              refine wpU_take (i := 22) (oi := ⟨some 98, _, _, _, _, _⟩) (v := ?_) rfl (by kernel_rfl) (by kernel_rfl) (by kernel_rfl) (fun _ _ _ h => h) (by decide) (fun _ => HS _ KC7) (Or.inl ⟨by kernel_rfl, ?_⟩) ?_
              rotate_left
              · intro w hSw; go_simp; try with_reducible rfl
              rotate_left
              try simp only [Act.put, List.setIfInBounds_toArray, List.set_cons_zero, List.set_cons_succ]
              refine wpU_take (i := 23) (oi := ⟨some 99, _, _, _, _, _⟩) (v := ?_) rfl (by kernel_rfl) (by kernel_rfl) (by kernel_rfl) (fun _ _ _ h => h) (by decide) (fun _ => HS _ KC7) (Or.inl ⟨by kernel_rfl, ?_⟩) ?_
              rotate_left
              · intro w hSw; go_simp; try with_reducible rfl
              rotate_left
              try simp only [Act.put, List.setIfInBounds_toArray, List.set_cons_zero, List.set_cons_succ]
              have BC0 := h.Bl.kept KC7 HP
              have bc0 := BC0.cellAt (i := 1) rfl
              have fc0 := BC0.frozen
              refine wpU_ready (rs := [24]) (by kernel_rfl) (by simp) ?_
              refine AllReadyU.cons (o := ⟨none, _, _, _, _, _⟩) rfl (fun K hK => ?_) AllReadyU.nil
              go_simp
              refine hK.out _ _ (fun h => absurd h (by decide)) ?_
              clear hK K
              try simp only [Act.put, List.setIfInBounds_toArray, List.set_cons_zero, List.set_cons_succ]
              have BC1 := BC0.set_ 1 (.slice An (ps.length + 1) an)
              refine wpU_take (i := 25) (oi := ⟨some 100, _, _, _, _, _⟩) (v := ?_) rfl (by kernel_rfl) (by kernel_rfl) (by kernel_rfl) (fun _ _ _ h => h) (by decide) (fun h => absurd h (by decide)) (Or.inl ⟨by kernel_rfl, ?_⟩) ?_
              rotate_left
              · intro w hSw; go_simp; try with_reducible rfl
              rotate_left
              try simp only [Act.put, List.setIfInBounds_toArray, List.set_cons_zero, List.set_cons_succ]
              refine wpU_take (i := 26) (oi := ⟨some 101, _, _, _, _, _⟩) (v := ?_) rfl (by kernel_rfl) (by kernel_rfl) (by kernel_rfl) (fun _ _ _ h => h) (by decide) (fun h => absurd h (by decide)) (Or.inl ⟨by kernel_rfl, ?_⟩) ?_
              rotate_left
              · intro w hSw; go_simp; try with_reducible rfl
              rotate_left
              try simp only [Act.put, List.setIfInBounds_toArray, List.set_cons_zero, List.set_cons_succ]
              have bc1 := BC1.cellAt (i := 2) rfl
              have fc1 := BC1.frozen
              refine wpU_ready (rs := [27]) (by kernel_rfl) (by simp) ?_
              refine AllReadyU.cons (o := ⟨none, _, _, _, _, _⟩) rfl (fun K hK => ?_) AllReadyU.nil
              go_simp
              refine hK.out _ _ (fun h => absurd h (by decide)) ?_
              clear hK K
              try simp only [Act.put, List.setIfInBounds_toArray, List.set_cons_zero, List.set_cons_succ]
              have BC2 := BC1.set_ 2 (.slice Gn (ps.length + 1) gn)
              refine wpU_take (i := 28) (oi := ⟨some 102, _, _, _, _, _⟩) (v := ?_) rfl (by kernel_rfl) (by kernel_rfl) (by kernel_rfl) (fun _ _ _ h => h) (by decide) (fun h => absurd h (by decide)) (Or.inl ⟨by kernel_rfl, ?_⟩) ?_
              rotate_left
              · intro w hSw; go_simp; try with_reducible rfl
              rotate_left
              try simp only [Act.put, List.setIfInBounds_toArray, List.set_cons_zero, List.set_cons_succ]
              refine wpU_take (i := 29) (oi := ⟨some 103, _, _, _, _, _⟩) (v := ?_) rfl (by kernel_rfl) (by kernel_rfl) (by kernel_rfl) (fun _ _ _ h => h) (by decide) (fun h => absurd h (by decide)) (Or.inl ⟨by kernel_rfl, ?_⟩) ?_
              rotate_left
              · intro w hSw; go_simp; try with_reducible rfl
              rotate_left
              try simp only [Act.put, List.setIfInBounds_toArray, List.set_cons_zero, List.set_cons_succ]
              have bc2 := BC2.cellAt (i := 3) rfl
              have fc2 := BC2.frozen
              refine wpU_ready (rs := [30]) (by kernel_rfl) (by simp) ?_
              refine AllReadyU.cons (o := ⟨none, _, _, _, _, _⟩) rfl (fun K hK => ?_) AllReadyU.nil
              go_simp
              refine hK.out _ _ (fun h => absurd h (by decide)) ?_
              clear hK K
              try simp only [Act.put, List.setIfInBounds_toArray, List.set_cons_zero, List.set_cons_succ]
              have BC3 := BC2.set_ 3 (.slice Vn (ps.length + 1) vn)
              refine wpU_done (by kernel_rfl) ?_ _
              have d3 := BC3.cellAt (i := 3) rfl
              go_wp2_with fail
              exact bodyPost_ret (v := .tuple #[.int .i64 (ps.length : Int), .int .i64 1, .int .i64 0]) (by simp [results, Try.results37, go_sem, hw]) rfl ⟨rfl, ⟨⟨An, an, Gn, gn, Vn, vn, s.B, s.b⟩, h.grown KC7 XI7 XG7 XV7, foot_grown zI zG zV⟩, keeps_rows KC7 _ _ _⟩
    · skip
      go_simp
      have kA := (Keeps.refl (fun _ => False) w2).alloc (.cells #[.int .i64 1] 2)
      have XI3 := own_kept XI2 kA (fun _ _ _ _ h => h)
      have XG3 := own_kept XG2 kA (fun _ _ _ _ h => h)
      have XV3 := own_kept XV2 kA (fun _ _ _ _ h => h)
      have NI3 := NI2.kept kA (fun _ _ _ _ h => h)
      have NG3 := Has.box w2 2 1 1 [.int .i64 1] rfl (by unfold maxLen; omega)
      have KC3 := KC2.alloc (.cells #[.int .i64 1] 2)
      dsimp only [List.toArray] at NG3
      generalize w2.alloc (.cells #[.int .i64 1] 2) = w3 at *
      refine hK.out _ _ (fun _ => HS _ KC3) ?_
      clear hK K
      try simp only [Act.put, List.setIfInBounds_toArray, List.set_cons_zero, List.set_cons_succ]
      refine wpU_ready (rs := [8, 20]) (by kernel_rfl) (by simp) ?_
      refine (AllReadyU.cons (o := ⟨some 84, _, _, _, _, _⟩) rfl (fun K hK => ?_) (AllReadyU.cons (o := ⟨some 96, _, _, _, _, _⟩) rfl (fun K hK => ?_) AllReadyU.nil))
      · skip
        refine step_append_has rfl (.tmp 82) (.tmp 83) 32 rfl iB _ 1 Try.underlying32 hB0 hB1 hB2 hB3 rfl (by omega) (by simp [Act.eval, Act.put]) XI3 (some ⟨w1.heap.size, 0, none⟩) 1 1 [.bool true] (by simp [Act.eval, Act.put]) NI3 (by intro u hu; simp at hu; subst hu; rfl) (by unfold maxLen; omega) (by omega) (Nat.zero_le _) ?_
        intro v4 w4 XI4 g4 at4
        obtain ⟨An, an, hv⟩ := own_shape XI4
        subst hv
        have kk : Keeps (fun b => (Value.slice s.A ps.length s.a).ownBlock = some b) w3 w4 := keeps_grown (Keeps.refl _ _) g4 (fun g h => .inl h)
        have XG4 := own_kept XG3 kk (fun g _ _ hg hs => types_ne (Has.of_own XI3) (Has.of_own XG3) (by decide) hs hg)
        have NG4 := NG3.kept kk (fun g _ _ hg hs => types_ne (Has.of_own XI3) NG3 (by decide) hs hg)
        have XV4 := own_kept XV3 kk (fun g _ _ hg hs => types_ne (Has.of_own XI3) (Has.of_own XV3) (by decide) hs hg)
        have KC4 : Keeps (Rows s) w w4 := keeps_grown KC3 g4 (fun g h => .inl (.inl ((ob_eq s.A ps.length s.a).symm.trans h)))
        have zI : ob An = ob s.A ∨ ∃ b, ob An = some b ∧ w.heap.size ≤ b := at4.imp (fun h => (ob_eq _ _ _).symm.trans (h.trans (ob_eq _ _ _))) (fun h => ⟨_, (ob_eq _ _ _).symm.trans h, KC3.size⟩)
        clear g4 at4 kk
        refine hK.out _ _ (fun _ => HS _ KC4) ?_
        clear hK K
        try simp only [Act.put, List.setIfInBounds_toArray, List.set_cons_zero, List.set_cons_succ]
        refine wpU_ready (rs := [14, 20]) (by kernel_rfl) (by simp) ?_
        refine (AllReadyU.cons (o := ⟨some 90, _, _, _, _, _⟩) rfl (fun K hK => ?_) (AllReadyU.cons (o := ⟨some 96, _, _, _, _, _⟩) rfl (fun K hK => ?_) AllReadyU.nil))
        · skip
          refine step_append_has rfl (.tmp 88) (.tmp 89) 56 rfl iL _ 8 Try.underlying56 hL0 hL1 hL2 hL3 rfl (by omega) (by simp [Act.eval, Act.put]) XG4 (some ⟨w2.heap.size, 0, none⟩) 1 1 [.int .i64 1] (by simp [Act.eval, Act.put]) NG4 (by intro u hu; simp at hu; subst hu; rfl) (by unfold maxLen; omega) (by omega) (Nat.zero_le _) ?_
          intro v5 w5 XG5 g5 at5
          obtain ⟨Gn, gn, hv⟩ := own_shape XG5
          subst hv
          have kk : Keeps (fun b => (Value.slice s.G ps.length s.g).ownBlock = some b) w4 w5 := keeps_grown (Keeps.refl _ _) g5 (fun g h => .inl h)
          have XI5 := own_kept XI4 kk (fun g _ _ hg hs => types_ne (Has.of_own XG4) (Has.of_own XI4) (by decide) hs hg)
          have XV5 := own_kept XV4 kk (fun g _ _ hg hs => types_ne (Has.of_own XG4) (Has.of_own XV4) (by decide) hs hg)
          have KC5 : Keeps (Rows s) w w5 := keeps_grown KC4 g5 (fun g h => .inl (.inr (.inl ((ob_eq s.G ps.length s.g).symm.trans h))))
          have zG : ob Gn = ob s.G ∨ ∃ b, ob Gn = some b ∧ w.heap.size ≤ b := at5.imp (fun h => (ob_eq _ _ _).symm.trans (h.trans (ob_eq _ _ _))) (fun h => ⟨_, (ob_eq _ _ _).symm.trans h, KC4.size⟩)
          clear g5 at5 kk
          refine hK.out _ _ (fun _ => HS _ KC5) ?_
          clear hK K
          try simp only [Act.put, List.setIfInBounds_toArray, List.set_cons_zero, List.set_cons_succ]
          refine wpU_ready (rs := [20]) (by kernel_rfl) (by simp) ?_
          refine (AllReadyU.cons (o := ⟨some 96, _, _, _, _, _⟩) rfl (fun K hK => ?_) AllReadyU.nil)
          · skip
            go_simp
            have kA := (Keeps.refl (fun _ => False) w5).alloc (.cells #[.string v] 9)
            have XI6 := own_kept XI5 kA (fun _ _ _ _ h => h)
            have XG6 := own_kept XG5 kA (fun _ _ _ _ h => h)
            have XV6 := own_kept XV5 kA (fun _ _ _ _ h => h)
            have NV6 := Has.box w5 9 1 1 [.string v] rfl (by unfold maxLen; omega)
            have KC6 := KC5.alloc (.cells #[.string v] 9)
            dsimp only [List.toArray] at NV6
            generalize w5.alloc (.cells #[.string v] 9) = w6 at *
            refine hK.out _ _ (fun _ => HS _ KC6) ?_
            clear hK K
            try simp only [Act.put, List.setIfInBounds_toArray, List.set_cons_zero, List.set_cons_succ]
            refine wpU_ready (rs := [21]) (by kernel_rfl) (by simp) ?_
            refine (AllReadyU.cons (o := ⟨some 97, _, _, _, _, _⟩) rfl (fun K hK => ?_) AllReadyU.nil)
            · skip
              refine step_append_has rfl (.tmp 94) (.tmp 96) 57 rfl iS _ 16 Try.underlying57 hS0 hS1 hS2 hS3 rfl (by omega) (by simp [Act.eval, Act.put]) XV6 (some ⟨w5.heap.size, 0, none⟩) 1 1 [.string v] (by simp [Act.eval, Act.put]) NV6 (by intro u hu; simp at hu; subst hu; rfl) (by unfold maxLen; omega) (by omega) (Nat.zero_le _) ?_
              intro v7 w7 XV7 g7 at7
              obtain ⟨Vn, vn, hv⟩ := own_shape XV7
              subst hv
              have kk : Keeps (fun b => (Value.slice s.V ps.length s.v).ownBlock = some b) w6 w7 := keeps_grown (Keeps.refl _ _) g7 (fun g h => .inl h)
              have XI7 := own_kept XI6 kk (fun g _ _ hg hs => types_ne (Has.of_own XV6) (Has.of_own XI6) (by decide) hs hg)
              have XG7 := own_kept XG6 kk (fun g _ _ hg hs => types_ne (Has.of_own XV6) (Has.of_own XG6) (by decide) hs hg)
              have KC7 : Keeps (Rows s) w w7 := keeps_grown KC6 g7 (fun g h => .inl (.inr (.inr ((ob_eq s.V ps.length s.v).symm.trans h))))
              have zV : ob Vn = ob s.V ∨ ∃ b, ob Vn = some b ∧ w.heap.size ≤ b := at7.imp (fun h => (ob_eq _ _ _).symm.trans (h.trans (ob_eq _ _ _))) (fun h => ⟨_, (ob_eq _ _ _).symm.trans h, KC6.size⟩)
              clear g7 at7 kk
              refine hK.out _ _ (fun _ => HS _ KC7) ?_
              clear hK K
              try simp only [Act.put, List.setIfInBounds_toArray, List.set_cons_zero, List.set_cons_succ]
              refine wpU_take (i := 22) (oi := ⟨some 98, _, _, _, _, _⟩) (v := ?_) rfl (by kernel_rfl) (by kernel_rfl) (by kernel_rfl) (fun _ _ _ h => h) (by decide) (fun _ => HS _ KC7) (Or.inl ⟨by kernel_rfl, ?_⟩) ?_
              rotate_left
              · intro w hSw; go_simp; try with_reducible rfl
              rotate_left
              try simp only [Act.put, List.setIfInBounds_toArray, List.set_cons_zero, List.set_cons_succ]
              refine wpU_take (i := 23) (oi := ⟨some 99, _, _, _, _, _⟩) (v := ?_) rfl (by kernel_rfl) (by kernel_rfl) (by kernel_rfl) (fun _ _ _ h => h) (by decide) (fun _ => HS _ KC7) (Or.inl ⟨by kernel_rfl, ?_⟩) ?_
              rotate_left
              · intro w hSw; go_simp; try with_reducible rfl
              rotate_left
              try simp only [Act.put, List.setIfInBounds_toArray, List.set_cons_zero, List.set_cons_succ]
              have BC0 := h.Bl.kept KC7 HP
              have bc0 := BC0.cellAt (i := 1) rfl
              have fc0 := BC0.frozen
              refine wpU_ready (rs := [24]) (by kernel_rfl) (by simp) ?_
              refine AllReadyU.cons (o := ⟨none, _, _, _, _, _⟩) rfl (fun K hK => ?_) AllReadyU.nil
              go_simp
              refine hK.out _ _ (fun h => absurd h (by decide)) ?_
              clear hK K
              try simp only [Act.put, List.setIfInBounds_toArray, List.set_cons_zero, List.set_cons_succ]
              have BC1 := BC0.set_ 1 (.slice An (ps.length + 1) an)
              refine wpU_take (i := 25) (oi := ⟨some 100, _, _, _, _, _⟩) (v := ?_) rfl (by kernel_rfl) (by kernel_rfl) (by kernel_rfl) (fun _ _ _ h => h) (by decide) (fun h => absurd h (by decide)) (Or.inl ⟨by kernel_rfl, ?_⟩) ?_
              rotate_left
              · intro w hSw; go_simp; try with_reducible rfl
              rotate_left
              try simp only [Act.put, List.setIfInBounds_toArray, List.set_cons_zero, List.set_cons_succ]
              refine wpU_take (i := 26) (oi := ⟨some 101, _, _, _, _, _⟩) (v := ?_) rfl (by kernel_rfl) (by kernel_rfl) (by kernel_rfl) (fun _ _ _ h => h) (by decide) (fun h => absurd h (by decide)) (Or.inl ⟨by kernel_rfl, ?_⟩) ?_
              rotate_left
              · intro w hSw; go_simp; try with_reducible rfl
              rotate_left
              try simp only [Act.put, List.setIfInBounds_toArray, List.set_cons_zero, List.set_cons_succ]
              have bc1 := BC1.cellAt (i := 2) rfl
              have fc1 := BC1.frozen
              refine wpU_ready (rs := [27]) (by kernel_rfl) (by simp) ?_
              refine AllReadyU.cons (o := ⟨none, _, _, _, _, _⟩) rfl (fun K hK => ?_) AllReadyU.nil
              go_simp
              refine hK.out _ _ (fun h => absurd h (by decide)) ?_
              clear hK K
              try simp only [Act.put, List.setIfInBounds_toArray, List.set_cons_zero, List.set_cons_succ]
              have BC2 := BC1.set_ 2 (.slice Gn (ps.length + 1) gn)
              refine wpU_take (i := 28) (oi := ⟨some 102, _, _, _, _, _⟩) (v := ?_) rfl (by kernel_rfl) (by kernel_rfl) (by kernel_rfl) (fun _ _ _ h => h) (by decide) (fun h => absurd h (by decide)) (Or.inl ⟨by kernel_rfl, ?_⟩) ?_
              rotate_left
              · intro w hSw; go_simp; try with_reducible rfl
              rotate_left
              try simp only [Act.put, List.setIfInBounds_toArray, List.set_cons_zero, List.set_cons_succ]
              refine wpU_take (i := 29) (oi := ⟨some 103, _, _, _, _, _⟩) (v := ?_) rfl (by kernel_rfl) (by kernel_rfl) (by kernel_rfl) (fun _ _ _ h => h) (by decide) (fun h => absurd h (by decide)) (Or.inl ⟨by kernel_rfl, ?_⟩) ?_
              rotate_left
              · intro w hSw; go_simp; try with_reducible rfl
              rotate_left
              try simp only [Act.put, List.setIfInBounds_toArray, List.set_cons_zero, List.set_cons_succ]
              have bc2 := BC2.cellAt (i := 3) rfl
              have fc2 := BC2.frozen
              refine wpU_ready (rs := [30]) (by kernel_rfl) (by simp) ?_
              refine AllReadyU.cons (o := ⟨none, _, _, _, _, _⟩) rfl (fun K hK => ?_) AllReadyU.nil
              go_simp
              refine hK.out _ _ (fun h => absurd h (by decide)) ?_
              clear hK K
              try simp only [Act.put, List.setIfInBounds_toArray, List.set_cons_zero, List.set_cons_succ]
              have BC3 := BC2.set_ 3 (.slice Vn (ps.length + 1) vn)
              refine wpU_done (by kernel_rfl) ?_ _
              have d3 := BC3.cellAt (i := 3) rfl
              go_wp2_with fail
              exact bodyPost_ret (v := .tuple #[.int .i64 (ps.length : Int), .int .i64 1, .int .i64 0]) (by simp [results, Try.results37, go_sem, hw]) rfl ⟨rfl, ⟨⟨An, an, Gn, gn, Vn, vn, s.B, s.b⟩, h.grown KC7 XI7 XG7 XV7, foot_grown zI zG zV⟩, keeps_rows KC7 _ _ _⟩
        · skip
          go_simp
          have kA := (Keeps.refl (fun _ => False) w4).alloc (.cells #[.string v] 9)
          have XI5 := own_kept XI4 kA (fun _ _ _ _ h => h)
          have XG5 := own_kept XG4 kA (fun _ _ _ _ h => h)
          have XV5 := own_kept XV4 kA (fun _ _ _ _ h => h)
          have NG5 := NG4.kept kA (fun _ _ _ _ h => h)
          have NV5 := Has.box w4 9 1 1 [.string v] rfl (by unfold maxLen; omega)
          have KC5 := KC4.alloc (.cells #[.string v] 9)
          dsimp only [List.toArray] at NV5
          generalize w4.alloc (.cells #[.string v] 9) = w5 at *
          refine hK.out _ _ (fun _ => HS _ KC5) ?_
          clear hK K
          try simp only [Act.put, List.setIfInBounds_toArray, List.set_cons_zero, List.set_cons_succ]
          refine wpU_ready (rs := [14]) (by kernel_rfl) (by simp) ?_
          refine (AllReadyU.cons (o := ⟨some 90, _, _, _, _, _⟩) rfl (fun K hK => ?_) AllReadyU.nil)
          · skip
            refine step_append_has rfl (.tmp 88) (.tmp 89) 56 rfl iL _ 8 Try.underlying56 hL0 hL1 hL2 hL3 rfl (by omega) (by simp [Act.eval, Act.put]) XG5 (some ⟨w2.heap.size, 0, none⟩) 1 1 [.int .i64 1] (by simp [Act.eval, Act.put]) NG5 (by intro u hu; simp at hu; subst hu; rfl) (by unfold maxLen; omega) (by omega) (Nat.zero_le _) ?_
            intro v6 w6 XG6 g6 at6
            obtain ⟨Gn, gn, hv⟩ := own_shape XG6
            subst hv
            have kk : Keeps (fun b => (Value.slice s.G ps.length s.g).ownBlock = some b) w5 w6 := keeps_grown (Keeps.refl _ _) g6 (fun g h => .inl h)
            have XI6 := own_kept XI5 kk (fun g _ _ hg hs => types_ne (Has.of_own XG5) (Has.of_own XI5) (by decide) hs hg)
            have XV6 := own_kept XV5 kk (fun g _ _ hg hs => types_ne (Has.of_own XG5) (Has.of_own XV5) (by decide) hs hg)
            have NV6 := NV5.kept kk (fun g _ _ hg hs => types_ne (Has.of_own XG5) NV5 (by decide) hs hg)
            have KC6 : Keeps (Rows s) w w6 := keeps_grown KC5 g6 (fun g h => .inl (.inr (.inl ((ob_eq s.G ps.length s.g).symm.trans h))))
            have zG : ob Gn = ob s.G ∨ ∃ b, ob Gn = some b ∧ w.heap.size ≤ b := at6.imp (fun h => (ob_eq _ _ _).symm.trans (h.trans (ob_eq _ _ _))) (fun h => ⟨_, (ob_eq _ _ _).symm.trans h, KC5.size⟩)
            clear g6 at6 kk
            refine hK.out _ _ (fun _ => HS _ KC6) ?_
            clear hK K
            try simp only [Act.put, List.setIfInBounds_toArray, List.set_cons_zero, List.set_cons_succ]
            refine wpU_ready (rs := [21]) (by kernel_rfl) (by simp) ?_
            refine (AllReadyU.cons (o := ⟨some 97, _, _, _, _, _⟩) rfl (fun K hK => ?_) AllReadyU.nil)
            · skip
              refine step_append_has rfl (.tmp 94) (.tmp 96) 57 rfl iS _ 16 Try.underlying57 hS0 hS1 hS2 hS3 rfl (by omega) (by simp [Act.eval, Act.put]) XV6 (some ⟨w4.heap.size, 0, none⟩) 1 1 [.string v] (by simp [Act.eval, Act.put]) NV6 (by intro u hu; simp at hu; subst hu; rfl) (by unfold maxLen; omega) (by omega) (Nat.zero_le _) ?_
              intro v7 w7 XV7 g7 at7
              obtain ⟨Vn, vn, hv⟩ := own_shape XV7
              subst hv
              have kk : Keeps (fun b => (Value.slice s.V ps.length s.v).ownBlock = some b) w6 w7 := keeps_grown (Keeps.refl _ _) g7 (fun g h => .inl h)
              have XI7 := own_kept XI6 kk (fun g _ _ hg hs => types_ne (Has.of_own XV6) (Has.of_own XI6) (by decide) hs hg)
              have XG7 := own_kept XG6 kk (fun g _ _ hg hs => types_ne (Has.of_own XV6) (Has.of_own XG6) (by decide) hs hg)
              have KC7 : Keeps (Rows s) w w7 := keeps_grown KC6 g7 (fun g h => .inl (.inr (.inr ((ob_eq s.V ps.length s.v).symm.trans h))))
              have zV : ob Vn = ob s.V ∨ ∃ b, ob Vn = some b ∧ w.heap.size ≤ b := at7.imp (fun h => (ob_eq _ _ _).symm.trans (h.trans (ob_eq _ _ _))) (fun h => ⟨_, (ob_eq _ _ _).symm.trans h, KC6.size⟩)
              clear g7 at7 kk
              refine hK.out _ _ (fun _ => HS _ KC7) ?_
              clear hK K
              try simp only [Act.put, List.setIfInBounds_toArray, List.set_cons_zero, List.set_cons_succ]
              refine wpU_take (i := 22) (oi := ⟨some 98, _, _, _, _, _⟩) (v := ?_) rfl (by kernel_rfl) (by kernel_rfl) (by kernel_rfl) (fun _ _ _ h => h) (by decide) (fun _ => HS _ KC7) (Or.inl ⟨by kernel_rfl, ?_⟩) ?_
              rotate_left
              · intro w hSw; go_simp; try with_reducible rfl
              rotate_left
              try simp only [Act.put, List.setIfInBounds_toArray, List.set_cons_zero, List.set_cons_succ]
              refine wpU_take (i := 23) (oi := ⟨some 99, _, _, _, _, _⟩) (v := ?_) rfl (by kernel_rfl) (by kernel_rfl) (by kernel_rfl) (fun _ _ _ h => h) (by decide) (fun _ => HS _ KC7) (Or.inl ⟨by kernel_rfl, ?_⟩) ?_
              rotate_left
              · intro w hSw; go_simp; try with_reducible rfl
              rotate_left
              try simp only [Act.put, List.setIfInBounds_toArray, List.set_cons_zero, List.set_cons_succ]
              have BC0 := h.Bl.kept KC7 HP
              have bc0 := BC0.cellAt (i := 1) rfl
              have fc0 := BC0.frozen
              refine wpU_ready (rs := [24]) (by kernel_rfl) (by simp) ?_
              refine AllReadyU.cons (o := ⟨none, _, _, _, _, _⟩) rfl (fun K hK => ?_) AllReadyU.nil
              go_simp
              refine hK.out _ _ (fun h => absurd h (by decide)) ?_
              clear hK K
              try simp only [Act.put, List.setIfInBounds_toArray, List.set_cons_zero, List.set_cons_succ]
              have BC1 := BC0.set_ 1 (.slice An (ps.length + 1) an)
              refine wpU_take (i := 25) (oi := ⟨some 100, _, _, _, _, _⟩) (v := ?_) rfl (by kernel_rfl) (by kernel_rfl) (by kernel_rfl) (fun _ _ _ h => h) (by decide) (fun h => absurd h (by decide)) (Or.inl ⟨by kernel_rfl, ?_⟩) ?_
              rotate_left
              · intro w hSw; go_simp; try with_reducible rfl
              rotate_left
              try simp only [Act.put, List.setIfInBounds_toArray, List.set_cons_zero, List.set_cons_succ]
              refine wpU_take (i := 26) (oi := ⟨some 101, _, _, _, _, _⟩) (v := ?_) rfl (by kernel_rfl) (by kernel_rfl) (by kernel_rfl) (fun _ _ _ h => h) (by decide) (fun h => absurd h (by decide)) (Or.inl ⟨by kernel_rfl, ?_⟩) ?_
              rotate_left
              · intro w hSw; go_simp; try with_reducible rfl
              rotate_left
              try simp only [Act.put, List.setIfInBounds_toArray, List.set_cons_zero, List.set_cons_succ]
              have bc1 := BC1.cellAt (i := 2) rfl
              have fc1 := BC1.frozen
              refine wpU_ready (rs := [27]) (by kernel_rfl) (by simp) ?_
              refine AllReadyU.cons (o := ⟨none, _, _, _, _, _⟩) rfl (fun K hK => ?_) AllReadyU.nil
              go_simp
              refine hK.out _ _ (fun h => absurd h (by decide)) ?_
              clear hK K
              try simp only [Act.put, List.setIfInBounds_toArray, List.set_cons_zero, List.set_cons_succ]
              have BC2 := BC1.set_ 2 (.slice Gn (ps.length + 1) gn)
              refine wpU_take (i := 28) (oi := ⟨some 102, _, _, _, _, _⟩) (v := ?_) rfl (by kernel_rfl) (by kernel_rfl) (by kernel_rfl) (fun _ _ _ h => h) (by decide) (fun h => absurd h (by decide)) (Or.inl ⟨by kernel_rfl, ?_⟩) ?_
              rotate_left
              · intro w hSw; go_simp; try with_reducible rfl
              rotate_left
              try simp only [Act.put, List.setIfInBounds_toArray, List.set_cons_zero, List.set_cons_succ]
              refine wpU_take (i := 29) (oi := ⟨some 103, _, _, _, _, _⟩) (v := ?_) rfl (by kernel_rfl) (by kernel_rfl) (by kernel_rfl) (fun _ _ _ h => h) (by decide) (fun h => absurd h (by decide)) (Or.inl ⟨by kernel_rfl, ?_⟩) ?_
              rotate_left
              · intro w hSw; go_simp; try with_reducible rfl
              rotate_left
              try simp only [Act.put, List.setIfInBounds_toArray, List.set_cons_zero, List.set_cons_succ]
              have bc2 := BC2.cellAt (i := 3) rfl
              have fc2 := BC2.frozen
              refine wpU_ready (rs := [30]) (by kernel_rfl) (by simp) ?_
              refine AllReadyU.cons (o := ⟨none, _, _, _, _, _⟩) rfl (fun K hK => ?_) AllReadyU.nil
              go_simp
              refine hK.out _ _ (fun h => absurd h (by decide)) ?_
              clear hK K
              try simp only [Act.put, List.setIfInBounds_toArray, List.set_cons_zero, List.set_cons_succ]
              have BC3 := BC2.set_ 3 (.slice Vn (ps.length + 1) vn)
              refine wpU_done (by kernel_rfl) ?_ _
              have d3 := BC3.cellAt (i := 3) rfl
              go_wp2_with fail
              exact bodyPost_ret (v := .tuple #[.int .i64 (ps.length : Int), .int .i64 1, .int .i64 0]) (by simp [results, Try.results37, go_sem, hw]) rfl ⟨rfl, ⟨⟨An, an, Gn, gn, Vn, vn, s.B, s.b⟩, h.grown KC7 XI7 XG7 XV7, foot_grown zI zG zV⟩, keeps_rows KC7 _ _ _⟩
      · skip
        go_simp
        have kA := (Keeps.refl (fun _ => False) w3).alloc (.cells #[.string v] 9)
        have XI4 := own_kept XI3 kA (fun _ _ _ _ h => h)
        have XG4 := own_kept XG3 kA (fun _ _ _ _ h => h)
        have XV4 := own_kept XV3 kA (fun _ _ _ _ h => h)
        have NI4 := NI3.kept kA (fun _ _ _ _ h => h)
        have NG4 := NG3.kept kA (fun _ _ _ _ h => h)
        have NV4 := Has.box w3 9 1 1 [.string v] rfl (by unfold maxLen; omega)
        have KC4 := KC3.alloc (.cells #[.string v] 9)
        dsimp only [List.toArray] at NV4
        generalize w3.alloc (.cells #[.string v] 9) = w4 at *
        refine hK.out _ _ (fun _ => HS _ KC4) ?_
        clear hK K
        try simp only [Act.put, List.setIfInBounds_toArray, List.set_cons_zero, List.set_cons_succ]
        refine wpU_ready (rs := [8]) (by kernel_rfl) (by simp) ?_
        refine (AllReadyU.cons (o := ⟨some 84, _, _, _, _, _⟩) rfl (fun K hK => ?_) AllReadyU.nil)
        · skip
          refine step_append_has rfl (.tmp 82) (.tmp 83) 32 rfl iB _ 1 Try.underlying32 hB0 hB1 hB2 hB3 rfl (by omega) (by simp [Act.eval, Act.put]) XI4 (some ⟨w1.heap.size, 0, none⟩) 1 1 [.bool true] (by simp [Act.eval, Act.put]) NI4 (by intro u hu; simp at hu; subst hu; rfl) (by unfold maxLen; omega) (by omega) (Nat.zero_le _) ?_
          intro v5 w5 XI5 g5 at5
          obtain ⟨An, an, hv⟩ := own_shape XI5
          subst hv
          have kk : Keeps (fun b => (Value.slice s.A ps.length s.a).ownBlock = some b) w4 w5 := keeps_grown (Keeps.refl _ _) g5 (fun g h => .inl h)
          have XG5 := own_kept XG4 kk (fun g _ _ hg hs => types_ne (Has.of_own XI4) (Has.of_own XG4) (by decide) hs hg)
          have NG5 := NG4.kept kk (fun g _ _ hg hs => types_ne (Has.of_own XI4) NG4 (by decide) hs hg)
          have XV5 := own_kept XV4 kk (fun g _ _ hg hs => types_ne (Has.of_own XI4) (Has.of_own XV4) (by decide) hs hg)
          have NV5 := NV4.kept kk (fun g _ _ hg hs => types_ne (Has.of_own XI4) NV4 (by decide) hs hg)
          have KC5 : Keeps (Rows s) w w5 := keeps_grown KC4 g5 (fun g h => .inl (.inl ((ob_eq s.A ps.length s.a).symm.trans h)))
          have zI : ob An = ob s.A ∨ ∃ b, ob An = some b ∧ w.heap.size ≤ b := at5.imp (fun h => (ob_eq _ _ _).symm.trans (h.trans (ob_eq _ _ _))) (fun h => ⟨_, (ob_eq _ _ _).symm.trans h, KC4.size⟩)
          clear g5 at5 kk
          refine hK.out _ _ (fun _ => HS _ KC5) ?_
          clear hK K
          try simp only [Act.put, List.setIfInBounds_toArray, List.set_cons_zero, List.set_cons_succ]
          refine wpU_ready (rs := [14]) (by kernel_rfl) (by simp) ?_
          refine (AllReadyU.cons (o := ⟨some 90, _, _, _, _, _⟩) rfl (fun K hK => ?_) AllReadyU.nil)
          · skip
            refine step_append_has rfl (.tmp 88) (.tmp 89) 56 rfl iL _ 8 Try.underlying56 hL0 hL1 hL2 hL3 rfl (by omega) (by simp [Act.eval, Act.put]) XG5 (some ⟨w2.heap.size, 0, none⟩) 1 1 [.int .i64 1] (by simp [Act.eval, Act.put]) NG5 (by intro u hu; simp at hu; subst hu; rfl) (by unfold maxLen; omega) (by omega) (Nat.zero_le _) ?_
            intro v6 w6 XG6 g6 at6
            obtain ⟨Gn, gn, hv⟩ := own_shape XG6
            subst hv
            have kk : Keeps (fun b => (Value.slice s.G ps.length s.g).ownBlock = some b) w5 w6 := keeps_grown (Keeps.refl _ _) g6 (fun g h => .inl h)
            have XI6 := own_kept XI5 kk (fun g _ _ hg hs => types_ne (Has.of_own XG5) (Has.of_own XI5) (by decide) hs hg)
            have XV6 := own_kept XV5 kk (fun g _ _ hg hs => types_ne (Has.of_own XG5) (Has.of_own XV5) (by decide) hs hg)
            have NV6 := NV5.kept kk (fun g _ _ hg hs => types_ne (Has.of_own XG5) NV5 (by decide) hs hg)
            have KC6 : Keeps (Rows s) w w6 := keeps_grown KC5 g6 (fun g h => .inl (.inr (.inl ((ob_eq s.G ps.length s.g).symm.trans h))))
            have zG : ob Gn = ob s.G ∨ ∃ b, ob Gn = some b ∧ w.heap.size ≤ b := at6.imp (fun h => (ob_eq _ _ _).symm.trans (h.trans (ob_eq _ _ _))) (fun h => ⟨_, (ob_eq _ _ _).symm.trans h, KC5.size⟩)
            clear g6 at6 kk
            refine hK.out _ _ (fun _ => HS _ KC6) ?_
            clear hK K
            try simp only [Act.put, List.setIfInBounds_toArray, List.set_cons_zero, List.set_cons_succ]
            refine wpU_ready (rs := [21]) (by kernel_rfl) (by simp) ?_
            refine (AllReadyU.cons (o := ⟨some 97, _, _, _, _, _⟩) rfl (fun K hK => ?_) AllReadyU.nil)
            · skip
              refine step_append_has rfl (.tmp 94) (.tmp 96) 57 rfl iS _ 16 Try.underlying57 hS0 hS1 hS2 hS3 rfl (by omega) (by simp [Act.eval, Act.put]) XV6 (some ⟨w3.heap.size, 0, none⟩) 1 1 [.string v] (by simp [Act.eval, Act.put]) NV6 (by intro u hu; simp at hu; subst hu; rfl) (by unfold maxLen; omega) (by omega) (Nat.zero_le _) ?_
              intro v7 w7 XV7 g7 at7
              obtain ⟨Vn, vn, hv⟩ := own_shape XV7
              subst hv
              have kk : Keeps (fun b => (Value.slice s.V ps.length s.v).ownBlock = some b) w6 w7 := keeps_grown (Keeps.refl _ _) g7 (fun g h => .inl h)
              have XI7 := own_kept XI6 kk (fun g _ _ hg hs => types_ne (Has.of_own XV6) (Has.of_own XI6) (by decide) hs hg)
              have XG7 := own_kept XG6 kk (fun g _ _ hg hs => types_ne (Has.of_own XV6) (Has.of_own XG6) (by decide) hs hg)
              have KC7 : Keeps (Rows s) w w7 := keeps_grown KC6 g7 (fun g h => .inl (.inr (.inr ((ob_eq s.V ps.length s.v).symm.trans h))))
              have zV : ob Vn = ob s.V ∨ ∃ b, ob Vn = some b ∧ w.heap.size ≤ b := at7.imp (fun h => (ob_eq _ _ _).symm.trans (h.trans (ob_eq _ _ _))) (fun h => ⟨_, (ob_eq _ _ _).symm.trans h, KC6.size⟩)
              clear g7 at7 kk
              refine hK.out _ _ (fun _ => HS _ KC7) ?_
              clear hK K
              try simp only [Act.put, List.setIfInBounds_toArray, List.set_cons_zero, List.set_cons_succ]
              refine wpU_take (i := 22) (oi := ⟨some 98, _, _, _, _, _⟩) (v := ?_) rfl (by kernel_rfl) (by kernel_rfl) (by kernel_rfl) (fun _ _ _ h => h) (by decide) (fun _ => HS _ KC7) (Or.inl ⟨by kernel_rfl, ?_⟩) ?_
              rotate_left
              · intro w hSw; go_simp; try with_reducible rfl
              rotate_left
              try simp only [Act.put, List.setIfInBounds_toArray, List.set_cons_zero, List.set_cons_succ]
              refine wpU_take (i := 23) (oi := ⟨some 99, _, _, _, _, _⟩) (v := ?_) rfl (by kernel_rfl) (by kernel_rfl) (by kernel_rfl) (fun _ _ _ h => h) (by decide) (fun _ => HS _ KC7) (Or.inl ⟨by kernel_rfl, ?_⟩) ?_
              rotate_left
              · intro w hSw; go_simp; try with_reducible rfl
              rotate_left
              try simp only [Act.put, List.setIfInBounds_toArray, List.set_cons_zero, List.set_cons_succ]
              have BC0 := h.Bl.kept KC7 HP
              have bc0 := BC0.cellAt (i := 1) rfl
              have fc0 := BC0.frozen
              refine wpU_ready (rs := [24]) (by kernel_rfl) (by simp) ?_
              refine AllReadyU.cons (o := ⟨none, _, _, _, _, _⟩) rfl (fun K hK => ?_) AllReadyU.nil
              go_simp
              refine hK.out _ _ (fun h => absurd h (by decide)) ?_
              clear hK K
              try simp only [Act.put, List.setIfInBounds_toArray, List.set_cons_zero, List.set_cons_succ]
              have BC1 := BC0.set_ 1 (.slice An (ps.length + 1) an)
              refine wpU_take (i := 25) (oi := ⟨some 100, _, _, _, _, _⟩) (v := ?_) rfl (by kernel_rfl) (by kernel_rfl) (by kernel_rfl) (fun _ _ _ h => h) (by decide) (fun h => absurd h (by decide)) (Or.inl ⟨by kernel_rfl, ?_⟩) ?_
              rotate_left
              · intro w hSw; go_simp; try with_reducible rfl
              rotate_left
              try simp only [Act.put, List.setIfInBounds_toArray, List.set_cons_zero, List.set_cons_succ]
              refine wpU_take (i := 26) (oi := ⟨some 101, _, _, _, _, _⟩) (v := ?_) rfl (by kernel_rfl) (by kernel_rfl) (by kernel_rfl) (fun _ _ _ h => h) (by decide) (fun h => absurd h (by decide)) (Or.inl ⟨by kernel_rfl, ?_⟩) ?_
              rotate_left
              · intro w hSw; go_simp; try with_reducible rfl
              rotate_left
              try simp only [Act.put, List.setIfInBounds_toArray, List.set_cons_zero, List.set_cons_succ]
              have bc1 := BC1.cellAt (i := 2) rfl
              have fc1 := BC1.frozen
              refine wpU_ready (rs := [27]) (by kernel_rfl) (by simp) ?_
              refine AllReadyU.cons (o := ⟨none, _, _, _, _, _⟩) rfl (fun K hK => ?_) AllReadyU.nil
              go_simp
              refine hK.out _ _ (fun h => absurd h (by decide)) ?_
              clear hK K
              try simp only [Act.put, List.setIfInBounds_toArray, List.set_cons_zero, List.set_cons_succ]
              have BC2 := BC1.set_ 2 (.slice Gn (ps.length + 1) gn)
              refine wpU_take (i := 28) (oi := ⟨some 102, _, _, _, _, _⟩) (v := ?_) rfl (by kernel_rfl) (by kernel_rfl) (by kernel_rfl) (fun _ _ _ h => h) (by decide) (fun h => absurd h (by decide)) (Or.inl ⟨by kernel_rfl, ?_⟩) ?_
              rotate_left
              · intro w hSw; go_simp; try with_reducible rfl
              rotate_left
              try simp only [Act.put, List.setIfInBounds_toArray, List.set_cons_zero, List.set_cons_succ]
              refine wpU_take (i := 29) (oi := ⟨some 103, _, _, _, _, _⟩) (v := ?_) rfl (by kernel_rfl) (by kernel_rfl) (by kernel_rfl) (fun _ _ _ h => h) (by decide) (fun h => absurd h (by decide)) (Or.inl ⟨by kernel_rfl, ?_⟩) ?_
              rotate_left
              · intro w hSw; go_simp; try with_reducible rfl
              rotate_left
              try simp only [Act.put, List.setIfInBounds_toArray, List.set_cons_zero, List.set_cons_succ]
              have bc2 := BC2.cellAt (i := 3) rfl
              have fc2 := BC2.frozen
              refine wpU_ready (rs := [30]) (by kernel_rfl) (by simp) ?_
              refine AllReadyU.cons (o := ⟨none, _, _, _, _, _⟩) rfl (fun K hK => ?_) AllReadyU.nil
              go_simp
              refine hK.out _ _ (fun h => absurd h (by decide)) ?_
              clear hK K
              try simp only [Act.put, List.setIfInBounds_toArray, List.set_cons_zero, List.set_cons_succ]
              have BC3 := BC2.set_ 3 (.slice Vn (ps.length + 1) vn)
              refine wpU_done (by kernel_rfl) ?_ _
              have d3 := BC3.cellAt (i := 3) rfl
              go_wp2_with fail
              exact bodyPost_ret (v := .tuple #[.int .i64 (ps.length : Int), .int .i64 1, .int .i64 0]) (by simp [results, Try.results37, go_sem, hw]) rfl ⟨rfl, ⟨⟨An, an, Gn, gn, Vn, vn, s.B, s.b⟩, h.grown KC7 XI7 XG7 XV7, foot_grown zI zG zV⟩, keeps_rows KC7 _ _ _⟩
    · skip
      go_simp
      have kA := (Keeps.refl (fun _ => False) w2).alloc (.cells #[.string v] 9)
      have XI3 := own_kept XI2 kA (fun _ _ _ _ h => h)
      have XG3 := own_kept XG2 kA (fun _ _ _ _ h => h)
      have XV3 := own_kept XV2 kA (fun _ _ _ _ h => h)
      have NI3 := NI2.kept kA (fun _ _ _ _ h => h)
      have NV3 := Has.box w2 9 1 1 [.string v] rfl (by unfold maxLen; omega)
      have KC3 := KC2.alloc (.cells #[.string v] 9)
      dsimp only [List.toArray] at NV3
      generalize w2.alloc (.cells #[.string v] 9) = w3 at *
      refine hK.out _ _ (fun _ => HS _ KC3) ?_
      clear hK K
      try simp only [Act.put, List.setIfInBounds_toArray, List.set_cons_zero, List.set_cons_succ]
      refine wpU_ready (rs := [8, 13]) (by kernel_rfl) (by simp) ?_
      refine (AllReadyU.cons (o := ⟨some 84, _, _, _, _, _⟩) rfl (fun K hK => ?_) (AllReadyU.cons (o := ⟨some 89, _, _, _, _, _⟩) rfl (fun K hK => ?_) AllReadyU.nil))
      · skip
        refine step_append_has rfl (.tmp 82) (.tmp 83) 32 rfl iB _ 1 Try.underlying32 hB0 hB1 hB2 hB3 rfl (by omega) (by simp [Act.eval, Act.put]) XI3 (some ⟨w1.heap.size, 0, none⟩) 1 1 [.bool true] (by simp [Act.eval, Act.put]) NI3 (by intro u hu; simp at hu; subst hu; rfl) (by unfold maxLen; omega) (by omega) (Nat.zero_le _) ?_
        intro v4 w4 XI4 g4 at4
        obtain ⟨An, an, hv⟩ := own_shape XI4
        subst hv
        have kk : Keeps (fun b => (Value.slice s.A ps.length s.a).ownBlock = some b) w3 w4 := keeps_grown (Keeps.refl _ _) g4 (fun g h => .inl h)
        have XG4 := own_kept XG3 kk (fun g _ _ hg hs => types_ne (Has.of_own XI3) (Has.of_own XG3) (by decide) hs hg)
        have XV4 := own_kept XV3 kk (fun g _ _ hg hs => types_ne (Has.of_own XI3) (Has.of_own XV3) (by decide) hs hg)
        have NV4 := NV3.kept kk (fun g _ _ hg hs => types_ne (Has.of_own XI3) NV3 (by decide) hs hg)
        have KC4 : Keeps (Rows s) w w4 := keeps_grown KC3 g4 (fun g h => .inl (.inl ((ob_eq s.A ps.length s.a).symm.trans h)))
        have zI : ob An = ob s.A ∨ ∃ b, ob An = some b ∧ w.heap.size ≤ b := at4.imp (fun h => (ob_eq _ _ _).symm.trans (h.trans (ob_eq _ _ _))) (fun h => ⟨_, (ob_eq _ _ _).symm.trans h, KC3.size⟩)
        clear g4 at4 kk
        refine hK.out _ _ (fun _ => HS _ KC4) ?_
        clear hK K
        try simp only [Act.put, List.setIfInBounds_toArray, List.set_cons_zero, List.set_cons_succ]
        refine wpU_ready (rs := [13]) (by kernel_rfl) (by simp) ?_
        refine (AllReadyU.cons (o := ⟨some 89, _, _, _, _, _⟩) rfl (fun K hK => ?_) AllReadyU.nil)
        · skip
          go_simp
          have kA := (Keeps.refl (fun _ => False) w4).alloc (.cells #[.int .i64 1] 2)
          have XI5 := own_kept XI4 kA (fun _ _ _ _ h => h)
          have XG5 := own_kept XG4 kA (fun _ _ _ _ h => h)
          have XV5 := own_kept XV4 kA (fun _ _ _ _ h => h)
          have NV5 := NV4.kept kA (fun _ _ _ _ h => h)
          have NG5 := Has.box w4 2 1 1 [.int .i64 1] rfl (by unfold maxLen; omega)
          have KC5 := KC4.alloc (.cells #[.int .i64 1] 2)
          dsimp only [List.toArray] at NG5
          generalize w4.alloc (.cells #[.int .i64 1] 2) = w5 at *
          refine hK.out _ _ (fun _ => HS _ KC5) ?_
          clear hK K
          try simp only [Act.put, List.setIfInBounds_toArray, List.set_cons_zero, List.set_cons_succ]
          refine wpU_ready (rs := [14]) (by kernel_rfl) (by simp) ?_
          refine (AllReadyU.cons (o := ⟨some 90, _, _, _, _, _⟩) rfl (fun K hK => ?_) AllReadyU.nil)
          · skip
            refine step_append_has rfl (.tmp 88) (.tmp 89) 56 rfl iL _ 8 Try.underlying56 hL0 hL1 hL2 hL3 rfl (by omega) (by simp [Act.eval, Act.put]) XG5 (some ⟨w4.heap.size, 0, none⟩) 1 1 [.int .i64 1] (by simp [Act.eval, Act.put]) NG5 (by intro u hu; simp at hu; subst hu; rfl) (by unfold maxLen; omega) (by omega) (Nat.zero_le _) ?_
            intro v6 w6 XG6 g6 at6
            obtain ⟨Gn, gn, hv⟩ := own_shape XG6
            subst hv
            have kk : Keeps (fun b => (Value.slice s.G ps.length s.g).ownBlock = some b) w5 w6 := keeps_grown (Keeps.refl _ _) g6 (fun g h => .inl h)
            have XI6 := own_kept XI5 kk (fun g _ _ hg hs => types_ne (Has.of_own XG5) (Has.of_own XI5) (by decide) hs hg)
            have XV6 := own_kept XV5 kk (fun g _ _ hg hs => types_ne (Has.of_own XG5) (Has.of_own XV5) (by decide) hs hg)
            have NV6 := NV5.kept kk (fun g _ _ hg hs => types_ne (Has.of_own XG5) NV5 (by decide) hs hg)
            have KC6 : Keeps (Rows s) w w6 := keeps_grown KC5 g6 (fun g h => .inl (.inr (.inl ((ob_eq s.G ps.length s.g).symm.trans h))))
            have zG : ob Gn = ob s.G ∨ ∃ b, ob Gn = some b ∧ w.heap.size ≤ b := at6.imp (fun h => (ob_eq _ _ _).symm.trans (h.trans (ob_eq _ _ _))) (fun h => ⟨_, (ob_eq _ _ _).symm.trans h, KC5.size⟩)
            clear g6 at6 kk
            refine hK.out _ _ (fun _ => HS _ KC6) ?_
            clear hK K
            try simp only [Act.put, List.setIfInBounds_toArray, List.set_cons_zero, List.set_cons_succ]
            refine wpU_ready (rs := [21]) (by kernel_rfl) (by simp) ?_
            refine (AllReadyU.cons (o := ⟨some 97, _, _, _, _, _⟩) rfl (fun K hK => ?_) AllReadyU.nil)
            · skip
              refine step_append_has rfl (.tmp 94) (.tmp 96) 57 rfl iS _ 16 Try.underlying57 hS0 hS1 hS2 hS3 rfl (by omega) (by simp [Act.eval, Act.put]) XV6 (some ⟨w2.heap.size, 0, none⟩) 1 1 [.string v] (by simp [Act.eval, Act.put]) NV6 (by intro u hu; simp at hu; subst hu; rfl) (by unfold maxLen; omega) (by omega) (Nat.zero_le _) ?_
              intro v7 w7 XV7 g7 at7
              obtain ⟨Vn, vn, hv⟩ := own_shape XV7
              subst hv
              have kk : Keeps (fun b => (Value.slice s.V ps.length s.v).ownBlock = some b) w6 w7 := keeps_grown (Keeps.refl _ _) g7 (fun g h => .inl h)
              have XI7 := own_kept XI6 kk (fun g _ _ hg hs => types_ne (Has.of_own XV6) (Has.of_own XI6) (by decide) hs hg)
              have XG7 := own_kept XG6 kk (fun g _ _ hg hs => types_ne (Has.of_own XV6) (Has.of_own XG6) (by decide) hs hg)
              have KC7 : Keeps (Rows s) w w7 := keeps_grown KC6 g7 (fun g h => .inl (.inr (.inr ((ob_eq s.V ps.length s.v).symm.trans h))))
              have zV : ob Vn = ob s.V ∨ ∃ b, ob Vn = some b ∧ w.heap.size ≤ b := at7.imp (fun h => (ob_eq _ _ _).symm.trans (h.trans (ob_eq _ _ _))) (fun h => ⟨_, (ob_eq _ _ _).symm.trans h, KC6.size⟩)
              clear g7 at7 kk
              refine hK.out _ _ (fun _ => HS _ KC7) ?_
              clear hK K
              try simp only [Act.put, List.setIfInBounds_toArray, List.set_cons_zero, List.set_cons_succ]
              refine wpU_take (i := 22) (oi := ⟨some 98, _, _, _, _, _⟩) (v := ?_) rfl (by kernel_rfl) (by kernel_rfl) (by kernel_rfl) (fun _ _ _ h => h) (by decide) (fun _ => HS _ KC7) (Or.inl ⟨by kernel_rfl, ?_⟩) ?_
              rotate_left
              · intro w hSw; go_simp; try with_reducible rfl
              rotate_left
              try simp only [Act.put, List.setIfInBounds_toArray, List.set_cons_zero, List.set_cons_succ]
              refine wpU_take (i := 23) (oi := ⟨some 99, _, _, _, _, _⟩) (v := ?_) rfl (by kernel_rfl) (by kernel_rfl) (by kernel_rfl) (fun _ _ _ h => h) (by decide) (fun _ => HS _ KC7) (Or.inl ⟨by kernel_rfl, ?_⟩) ?_
              rotate_left
              · intro w hSw; go_simp; try with_reducible rfl
              rotate_left
              try simp only [Act.put, List.setIfInBounds_toArray, List.set_cons_zero, List.set_cons_succ]
              have BC0 := h.Bl.kept KC7 HP
              have bc0 := BC0.cellAt (i := 1) rfl
              have fc0 := BC0.frozen
              refine wpU_ready (rs := [24]) (by kernel_rfl) (by simp) ?_
              refine AllReadyU.cons (o := ⟨none, _, _, _, _, _⟩) rfl (fun K hK => ?_) AllReadyU.nil
              go_simp
              refine hK.out _ _ (fun h => absurd h (by decide)) ?_
              clear hK K
              try simp only [Act.put, List.setIfInBounds_toArray, List.set_cons_zero, List.set_cons_succ]
              have BC1 := BC0.set_ 1 (.slice An (ps.length + 1) an)
              refine wpU_take (i := 25) (oi := ⟨some 100, _, _, _, _, _⟩) (v := ?_) rfl (by kernel_rfl) (by kernel_rfl) (by kernel_rfl) (fun _ _ _ h => h) (by decide) (fun h => absurd h (by decide)) (Or.inl ⟨by kernel_rfl, ?_⟩) ?_
              rotate_left
              · intro w hSw; go_simp; try with_reducible rfl
              rotate_left
              try simp only [Act.put, List.setIfInBounds_toArray, List.set_cons_zero, List.set_cons_succ]
              refine wpU_take (i := 26) (oi := ⟨some 101, _, _, _, _, _⟩) (v := ?_) rfl (by kernel_rfl) (by kernel_rfl) (by kernel_rfl) (fun _ _ _ h => h) (by decide) (fun h => absurd h (by decide)) (Or.inl ⟨by kernel_rfl, ?_⟩) ?_
              rotate_left
              · intro w hSw; go_simp; try with_reducible rfl
              rotate_left
              try simp only [Act.put, List.setIfInBounds_toArray, List.set_cons_zero, List.set_cons_succ]
              have bc1 := BC1.cellAt (i := 2) rfl
              have fc1 := BC1.frozen
              refine wpU_ready (rs := [27]) (by kernel_rfl) (by simp) ?_
              refine AllReadyU.cons (o := ⟨none, _, _, _, _, _⟩) rfl (fun K hK => ?_) AllReadyU.nil
              go_simp
              refine hK.out _ _ (fun h => absurd h (by decide)) ?_
              clear hK K
              try simp only [Act.put, List.setIfInBounds_toArray, List.set_cons_zero, List.set_cons_succ]
              have BC2 := BC1.set_ 2 (.slice Gn (ps.length + 1) gn)
              refine wpU_take (i := 28) (oi := ⟨some 102, _, _, _, _, _⟩) (v := ?_) rfl (by kernel_rfl) (by kernel_rfl) (by kernel_rfl) (fun _ _ _ h => h) (by decide) (fun h => absurd h (by decide)) (Or.inl ⟨by kernel_rfl, ?_⟩) ?_
              rotate_left
              · intro w hSw; go_simp; try with_reducible rfl
              rotate_left
              try simp only [Act.put, List.setIfInBounds_toArray, List.set_cons_zero, List.set_cons_succ]
              refine wpU_take (i := 29) (oi := ⟨some 103, _, _, _, _, _⟩) (v := ?_) rfl (by kernel_rfl) (by kernel_rfl) (by kernel_rfl) (fun _ _ _ h => h) (by decide) (fun h => absurd h (by decide)) (Or.inl ⟨by kernel_rfl, ?_⟩) ?_
              rotate_left
              · intro w hSw; go_simp; try with_reducible rfl
              rotate_left
              try simp only [Act.put, List.setIfInBounds_toArray, List.set_cons_zero, List.set_cons_succ]
              have bc2 := BC2.cellAt (i := 3) rfl
              have fc2 := BC2.frozen
              refine wpU_ready (rs := [30]) (by kernel_rfl) (by simp) ?_
              refine AllReadyU.cons (o := ⟨none, _, _, _, _, _⟩) rfl (fun K hK => ?_) AllReadyU.nil
              go_simp
              refine hK.out _ _ (fun h => absurd h (by decide)) ?_
              clear hK K
              try simp only [Act.put, List.setIfInBounds_toArray, List.set_cons_zero, List.set_cons_succ]
              have BC3 := BC2.set_ 3 (.slice Vn (ps.length + 1) vn)
              refine wpU_done (by kernel_rfl) ?_ _
              have d3 := BC3.cellAt (i := 3) rfl
              go_wp2_with fail
              exact bodyPost_ret (v := .tuple #[.int .i64 (ps.length : Int), .int .i64 1, .int .i64 0]) (by simp [results, Try.results37, go_sem, hw]) rfl ⟨rfl, ⟨⟨An, an, Gn, gn, Vn, vn, s.B, s.b⟩, h.grown KC7 XI7 XG7 XV7, foot_grown zI zG zV⟩, keeps_rows KC7 _ _ _⟩
      · skip
        go_simp
        have kA := (Keeps.refl (fun _ => False) w3).alloc (.cells #[.int .i64 1] 2)
        have XI4 := own_kept XI3 kA (fun _ _ _ _ h => h)
        have XG4 := own_kept XG3 kA (fun _ _ _ _ h => h)
        have XV4 := own_kept XV3 kA (fun _ _ _ _ h => h)
        have NI4 := NI3.kept kA (fun _ _ _ _ h => h)
        have NV4 := NV3.kept kA (fun _ _ _ _ h => h)
        have NG4 := Has.box w3 2 1 1 [.int .i64 1] rfl (by unfold maxLen; omega)
        have KC4 := KC3.alloc (.cells #[.int .i64 1] 2)
        dsimp only [List.toArray] at NG4
        generalize w3.alloc (.cells #[.int .i64 1] 2) = w4 at *
        refine hK.out _ _ (fun _ => HS _ KC4) ?_
        clear hK K
        try simp only [Act.put, List.setIfInBounds_toArray, List.set_cons_zero, List.set_cons_succ]
        refine wpU_ready (rs := [8]) (by kernel_rfl) (by simp) ?_
        refine (AllReadyU.cons (o := ⟨some 84, _, _, _, _, _⟩) rfl (fun K hK => ?_) AllReadyU.nil)
        · skip
          refine step_append_has rfl (.tmp 82) (.tmp 83) 32 rfl iB _ 1 Try.underlying32 hB0 hB1 hB2 hB3 rfl (by omega) (by simp [Act.eval, Act.put]) XI4 (some ⟨w1.heap.size, 0, none⟩) 1 1 [.bool true] (by simp [Act.eval, Act.put]) NI4 (by intro u hu; simp at hu; subst hu; rfl) (by unfold maxLen; omega) (by omega) (Nat.zero_le _) ?_
          intro v5 w5 XI5 g5 at5
          obtain ⟨An, an, hv⟩ := own_shape XI5
          subst hv
          have kk : Keeps (fun b => (Value.slice s.A ps.length s.a).ownBlock = some b) w4 w5 := keeps_grown (Keeps.refl _ _) g5 (fun g h => .inl h)
          have XG5 := own_kept XG4 kk (fun g _ _ hg hs => types_ne (Has.of_own XI4) (Has.of_own XG4) (by decide) hs hg)
          have NG5 := NG4.kept kk (fun g _ _ hg hs => types_ne (Has.of_own XI4) NG4 (by decide) hs hg)
          have XV5 := own_kept XV4 kk (fun g _ _ hg hs => types_ne (Has.of_own XI4) (Has.of_own XV4) (by decide) hs hg)
          have NV5 := NV4.kept kk (fun g _ _ hg hs => types_ne (Has.of_own XI4) NV4 (by decide) hs hg)
          have KC5 : Keeps (Rows s) w w5 := keeps_grown KC4 g5 (fun g h => .inl (.inl ((ob_eq s.A ps.length s.a).symm.trans h)))
          have zI : ob An = ob s.A ∨ ∃ b, ob An = some b ∧ w.heap.size ≤ b := at5.imp (fun h => (ob_eq _ _ _).symm.trans (h.trans (ob_eq _ _ _))) (fun h => ⟨_, (ob_eq _ _ _).symm.trans h, KC4.size⟩)
          clear g5 at5 kk
          refine hK.out _ _ (fun _ => HS _ KC5) ?_
          clear hK K
          try simp only [Act.put, List.setIfInBounds_toArray, List.set_cons_zero, List.set_cons_succ]
          refine wpU_ready (rs := [14]) (by kernel_rfl) (by simp) ?_
          refine (AllReadyU.cons (o := ⟨some 90, _, _, _, _, _⟩) rfl (fun K hK => ?_) AllReadyU.nil)
          · skip
            refine step_append_has rfl (.tmp 88) (.tmp 89) 56 rfl iL _ 8 Try.underlying56 hL0 hL1 hL2 hL3 rfl (by omega) (by simp [Act.eval, Act.put]) XG5 (some ⟨w3.heap.size, 0, none⟩) 1 1 [.int .i64 1] (by simp [Act.eval, Act.put]) NG5 (by intro u hu; simp at hu; subst hu; rfl) (by unfold maxLen; omega) (by omega) (Nat.zero_le _) ?_
            intro v6 w6 XG6 g6 at6
            obtain ⟨Gn, gn, hv⟩ := own_shape XG6
            subst hv
            have kk : Keeps (fun b => (Value.slice s.G ps.length s.g).ownBlock = some b) w5 w6 := keeps_grown (Keeps.refl _ _) g6 (fun g h => .inl h)
            have XI6 := own_kept XI5 kk (fun g _ _ hg hs => types_ne (Has.of_own XG5) (Has.of_own XI5) (by decide) hs hg)
            have XV6 := own_kept XV5 kk (fun g _ _ hg hs => types_ne (Has.of_own XG5) (Has.of_own XV5) (by decide) hs hg)
            have NV6 := NV5.kept kk (fun g _ _ hg hs => types_ne (Has.of_own XG5) NV5 (by decide) hs hg)
            have KC6 : Keeps (Rows s) w w6 := keeps_grown KC5 g6 (fun g h => .inl (.inr (.inl ((ob_eq s.G ps.length s.g).symm.trans h))))
            have zG : ob Gn = ob s.G ∨ ∃ b, ob Gn = some b ∧ w.heap.size ≤ b := at6.imp (fun h => (ob_eq _ _ _).symm.trans (h.trans (ob_eq _ _ _))) (fun h => ⟨_, (ob_eq _ _ _).symm.trans h, KC5.size⟩)
            clear g6 at6 kk
            refine hK.out _ _ (fun _ => HS _ KC6) ?_
            clear hK K
            try simp only [Act.put, List.setIfInBounds_toArray, List.set_cons_zero, List.set_cons_succ]
            refine wpU_ready (rs := [21]) (by kernel_rfl) (by simp) ?_
            refine (AllReadyU.cons (o := ⟨some 97, _, _, _, _, _⟩) rfl (fun K hK => ?_) AllReadyU.nil)
            · skip
              refine step_append_has rfl (.tmp 94) (.tmp 96) 57 rfl iS _ 16 Try.underlying57 hS0 hS1 hS2 hS3 rfl (by omega) (by simp [Act.eval, Act.put]) XV6 (some ⟨w2.heap.size, 0, none⟩) 1 1 [.string v] (by simp [Act.eval, Act.put]) NV6 (by intro u hu; simp at hu; subst hu; rfl) (by unfold maxLen; omega) (by omega) (Nat.zero_le _) ?_
              intro v7 w7 XV7 g7 at7
              obtain ⟨Vn, vn, hv⟩ := own_shape XV7
              subst hv
              have kk : Keeps (fun b => (Value.slice s.V ps.length s.v).ownBlock = some b) w6 w7 := keeps_grown (Keeps.refl _ _) g7 (fun g h => .inl h)
              have XI7 := own_kept XI6 kk (fun g _ _ hg hs => types_ne (Has.of_own XV6) (Has.of_own XI6) (by decide) hs hg)
              have XG7 := own_kept XG6 kk (fun g _ _ hg hs => types_ne (Has.of_own XV6) (Has.of_own XG6) (by decide) hs hg)
              have KC7 : Keeps (Rows s) w w7 := keeps_grown KC6 g7 (fun g h => .inl (.inr (.inr ((ob_eq s.V ps.length s.v).symm.trans h))))
              have zV : ob Vn = ob s.V ∨ ∃ b, ob Vn = some b ∧ w.heap.size ≤ b := at7.imp (fun h => (ob_eq _ _ _).symm.trans (h.trans (ob_eq _ _ _))) (fun h => ⟨_, (ob_eq _ _ _).symm.trans h, KC6.size⟩)
              clear g7 at7 kk
              refine hK.out _ _ (fun _ => HS _ KC7) ?_
              clear hK K
              try simp only [Act.put, List.setIfInBounds_toArray, List.set_cons_zero, List.set_cons_succ]
              refine wpU_take (i := 22) (oi := ⟨some 98, _, _, _, _, _⟩) (v := ?_) rfl (by kernel_rfl) (by kernel_rfl) (by kernel_rfl) (fun _ _ _ h => h) (by decide) (fun _ => HS _ KC7) (Or.inl ⟨by kernel_rfl, ?_⟩) ?_
              rotate_left
              · intro w hSw; go_simp; try with_reducible rfl
              rotate_left
              try simp only [Act.put, List.setIfInBounds_toArray, List.set_cons_zero, List.set_cons_succ]
              refine wpU_take (i := 23) (oi := ⟨some 99, _, _, _, _, _⟩) (v := ?_) rfl (by kernel_rfl) (by kernel_rfl) (by kernel_rfl) (fun _ _ _ h => h) (by decide) (fun _ => HS _ KC7) (Or.inl ⟨by kernel_rfl, ?_⟩) ?_
              rotate_left
              · intro w hSw; go_simp; try with_reducible rfl
              rotate_left
              try simp only [Act.put, List.setIfInBounds_toArray, List.set_cons_zero, List.set_cons_succ]
              have BC0 := h.Bl.kept KC7 HP
              have bc0 := BC0.cellAt (i := 1) rfl
              have fc0 := BC0.frozen
              refine wpU_ready (rs := [24]) (by kernel_rfl) (by simp) ?_
              refine AllReadyU.cons (o := ⟨none, _, _, _, _, _⟩) rfl (fun K hK => ?_) AllReadyU.nil
              go_simp
              refine hK.out _ _ (fun h => absurd h (by decide)) ?_
              clear hK K
              try simp only [Act.put, List.setIfInBounds_toArray, List.set_cons_zero, List.set_cons_succ]
              have BC1 := BC0.set_ 1 (.slice An (ps.length + 1) an)
              refine wpU_take (i := 25) (oi := ⟨some 100, _, _, _, _, _⟩) (v := ?_) rfl (by kernel_rfl) (by kernel_rfl) (by kernel_rfl) (fun _ _ _ h => h) (by decide) (fun h => absurd h (by decide)) (Or.inl ⟨by kernel_rfl, ?_⟩) ?_
              rotate_left
              · intro w hSw; go_simp; try with_reducible rfl
              rotate_left
              try simp only [Act.put, List.setIfInBounds_toArray, List.set_cons_zero, List.set_cons_succ]
              refine wpU_take (i := 26) (oi := ⟨some 101, _, _, _, _, _⟩) (v := ?_) rfl (by kernel_rfl) (by kernel_rfl) (by kernel_rfl) (fun _ _ _ h => h) (by decide) (fun h => absurd h (by decide)) (Or.inl ⟨by kernel_rfl, ?_⟩) ?_
              rotate_left
              · intro w hSw; go_simp; try with_reducible rfl
              rotate_left
              try simp only [Act.put, List.setIfInBounds_toArray, List.set_cons_zero, List.set_cons_succ]
              have bc1 := BC1.cellAt (i := 2) rfl
              have fc1 := BC1.frozen
              refine wpU_ready (rs := [27]) (by kernel_rfl) (by simp) ?_
              refine AllReadyU.cons (o := ⟨none, _, _, _, _, _⟩) rfl (fun K hK => ?_) AllReadyU.nil
              go_simp
              refine hK.out _ _ (fun h => absurd h (by decide)) ?_
              clear hK K
              try simp only [Act.put, List.setIfInBounds_toArray, List.set_cons_zero, List.set_cons_succ]
              have BC2 := BC1.set_ 2 (.slice Gn (ps.length + 1) gn)
              refine wpU_take (i := 28) (oi := ⟨some 102, _, _, _, _, _⟩) (v := ?_) rfl (by kernel_rfl) (by kernel_rfl) (by kernel_rfl) (fun _ _ _ h => h) (by decide) (fun h => absurd h (by decide)) (Or.inl ⟨by kernel_rfl, ?_⟩) ?_
              rotate_left
              · intro w hSw; go_simp; try with_reducible rfl
              rotate_left
              try simp only [Act.put, List.setIfInBounds_toArray, List.set_cons_zero, List.set_cons_succ]
              refine wpU_take (i := 29) (oi := ⟨some 103, _, _, _, _, _⟩) (v := ?_) rfl (by kernel_rfl) (by kernel_rfl) (by kernel_rfl) (fun _ _ _ h => h) (by decide) (fun h => absurd h (by decide)) (Or.inl ⟨by kernel_rfl, ?_⟩) ?_
              rotate_left
              · intro w hSw; go_simp; try with_reducible rfl
              rotate_left
              try simp only [Act.put, List.setIfInBounds_toArray, List.set_cons_zero, List.set_cons_succ]
              have bc2 := BC2.cellAt (i := 3) rfl
              have fc2 := BC2.frozen
              refine wpU_ready (rs := [30]) (by kernel_rfl) (by simp) ?_
              refine AllReadyU.cons (o := ⟨none, _, _, _, _, _⟩) rfl (fun K hK => ?_) AllReadyU.nil
              go_simp
              refine hK.out _ _ (fun h => absurd h (by decide)) ?_
              clear hK K
              try simp only [Act.put, List.setIfInBounds_toArray, List.set_cons_zero, List.set_cons_succ]
              have BC3 := BC2.set_ 3 (.slice Vn (ps.length + 1) vn)
              refine wpU_done (by kernel_rfl) ?_ _
              have d3 := BC3.cellAt (i := 3) rfl
              go_wp2_with fail
              exact bodyPost_ret (v := .tuple #[.int .i64 (ps.length : Int), .int .i64 1, .int .i64 0]) (by simp [results, Try.results37, go_sem, hw]) rfl ⟨rfl, ⟨⟨An, an, Gn, gn, Vn, vn, s.B, s.b⟩, h.grown KC7 XI7 XG7 XV7, foot_grown zI zG zV⟩, keeps_rows KC7 _ _ _⟩
  · skip
    go_simp
    have kA := (Keeps.refl (fun _ => False) w1).alloc (.cells #[.int .i64 1] 2)
    have XI2 := own_kept XI1 kA (fun _ _ _ _ h => h)
    have XG2 := own_kept XG1 kA (fun _ _ _ _ h => h)
    have XV2 := own_kept XV1 kA (fun _ _ _ _ h => h)
    have NG2 := Has.box w1 2 1 1 [.int .i64 1] rfl (by unfold maxLen; omega)
    have KC2 := KC1.alloc (.cells #[.int .i64 1] 2)
    dsimp only [List.toArray] at NG2
    generalize w1.alloc (.cells #[.int .i64 1] 2) = w2 at *
    refine hK.out _ _ (fun _ => HS _ KC2) ?_
    clear hK K
    try simp only [Act.put, List.setIfInBounds_toArray, List.set_cons_zero, List.set_cons_succ]
    refine wpU_ready (rs := [7, 20]) (by kernel_rfl) (by simp) ?_
    refine (AllReadyU.cons (o := ⟨some 83, _, _, _, _, _⟩) rfl (fun K hK => ?_) (AllReadyU.cons (o := ⟨some 96, _, _, _, _, _⟩) rfl (fun K hK => ?_) AllReadyU.nil))
    · skip
      go_simp
      have kA := (Keeps.refl (fun _ => False) w2).alloc (.cells #[.bool true] 4)
      have XI3 := own_kept XI2 kA (fun _ _ _ _ h => h)
      have XG3 := own_kept XG2 kA (fun _ _ _ _ h => h)
      have XV3 := own_kept XV2 kA (fun _ _ _ _ h => h)
      have NG3 := NG2.kept kA (fun _ _ _ _ h => h)
      have NI3 := Has.box w2 4 1 1 [.bool true] rfl (by unfold maxLen; omega)
      have KC3 := KC2.alloc (.cells #[.bool true] 4)
      dsimp only [List.toArray] at NI3
      generalize w2.alloc (.cells #[.bool true] 4) = w3 at *
      refine hK.out _ _ (fun _ => HS _ KC3) ?_
      clear hK K
      try simp only [Act.put, List.setIfInBounds_toArray, List.set_cons_zero, List.set_cons_succ]
      refine wpU_ready (rs := [8, 20]) (by kernel_rfl) (by simp) ?_
      refine (AllReadyU.cons (o := ⟨some 84, _, _, _, _, _⟩) rfl (fun K hK => ?_) (AllReadyU.cons (o := ⟨some 96, _, _, _, _, _⟩) rfl (fun K hK => ?_) AllReadyU.nil))
      · skip
        refine step_append_has rfl (.tmp 82) (.tmp 83) 32 rfl iB _ 1 Try.underlying32 hB0 hB1 hB2 hB3 rfl (by omega) (by simp [Act.eval, Act.put]) XI3 (some ⟨w2.heap.size, 0, none⟩) 1 1 [.bool true] (by simp [Act.eval, Act.put]) NI3 (by intro u hu; simp at hu; subst hu; rfl) (by unfold maxLen; omega) (by omega) (Nat.zero_le _) ?_
        intro v4 w4 XI4 g4 at4
        obtain ⟨An, an, hv⟩ := own_shape XI4
        subst hv
        have kk : Keeps (fun b => (Value.slice s.A ps.length s.a).ownBlock = some b) w3 w4 := keeps_grown (Keeps.refl _ _) g4 (fun g h => .inl h)
        have XG4 := own_kept XG3 kk (fun g _ _ hg hs => types_ne (Has.of_own XI3) (Has.of_own XG3) (by decide) hs hg)
        have NG4 := NG3.kept kk (fun g _ _ hg hs => types_ne (Has.of_own XI3) NG3 (by decide) hs hg)
        have XV4 := own_kept XV3 kk (fun g _ _ hg hs => types_ne (Has.of_own XI3) (Has.of_own XV3) (by decide) hs hg)
        have KC4 : Keeps (Rows s) w w4 := keeps_grown KC3 g4 (fun g h => .inl (.inl ((ob_eq s.A ps.length s.a).symm.trans h)))
        have zI : ob An = ob s.A ∨ ∃ b, ob An = some b ∧ w.heap.size ≤ b := at4.imp (fun h => (ob_eq _ _ _).symm.trans (h.trans (ob_eq _ _ _))) (fun h => ⟨_, (ob_eq _ _ _).symm.trans h, KC3.size⟩)
        clear g4 at4 kk
        refine hK.out _ _ (fun _ => HS _ KC4) ?_
        clear hK K
        try simp only [Act.put, List.setIfInBounds_toArray, List.set_cons_zero, List.set_cons_succ]
        refine wpU_ready (rs := [14, 20]) (by kernel_rfl) (by simp) ?_
        refine (AllReadyU.cons (o := ⟨some 90, _, _, _, _, _⟩) rfl (fun K hK => ?_) (AllReadyU.cons (o := ⟨some 96, _, _, _, _, _⟩) rfl (fun K hK => ?_) AllReadyU.nil))
        · skip
          refine step_append_has rfl (.tmp 88) (.tmp 89) 56 rfl iL _ 8 Try.underlying56 hL0 hL1 hL2 hL3 rfl (by omega) (by simp [Act.eval, Act.put]) XG4 (some ⟨w1.heap.size, 0, none⟩) 1 1 [.int .i64 1] (by simp [Act.eval, Act.put]) NG4 (by intro u hu; simp at hu; subst hu; rfl) (by unfold maxLen; omega) (by omega) (Nat.zero_le _) ?_
          intro v5 w5 XG5 g5 at5
          obtain ⟨Gn, gn, hv⟩ := own_shape XG5
          subst hv
          have kk : Keeps (fun b => (Value.slice s.G ps.length s.g).ownBlock = some b) w4 w5 := keeps_grown (Keeps.refl _ _) g5 (fun g h => .inl h)
          have XI5 := own_kept XI4 kk (fun g _ _ hg hs => types_ne (Has.of_own XG4) (Has.of_own XI4) (by decide) hs hg)
          have XV5 := own_kept XV4 kk (fun g _ _ hg hs => types_ne (Has.of_own XG4) (Has.of_own XV4) (by decide) hs hg)
          have KC5 : Keeps (Rows s) w w5 := keeps_grown KC4 g5 (fun g h => .inl (.inr (.inl ((ob_eq s.G ps.length s.g).symm.trans h))))
          have zG : ob Gn = ob s.G ∨ ∃ b, ob Gn = some b ∧ w.heap.size ≤ b := at5.imp (fun h => (ob_eq _ _ _).symm.trans (h.trans (ob_eq _ _ _))) (fun h => ⟨_, (ob_eq _ _ _).symm.trans h, KC4.size⟩)
          clear g5 at5 kk
          refine hK.out _ _ (fun _ => HS _ KC5) ?_
          clear hK K
          try simp only [Act.put, List.setIfInBounds_toArray, List.set_cons_zero, List.set_cons_succ]
          refine wpU_ready (rs := [20]) (by kernel_rfl) (by simp) ?_
          refine (AllReadyU.cons (o := ⟨some 96, _, _, _, _, _⟩) rfl (fun K hK => ?_) AllReadyU.nil)
          · skip
            go_simp
            have kA := (Keeps.refl (fun _ => False) w5).alloc (.cells #[.string v] 9)
            have XI6 := own_kept XI5 kA (fun _ _ _ _ h => h)
            have XG6 := own_kept XG5 kA (fun _ _ _ _ h => h)
            have XV6 := own_kept XV5 kA (fun _ _ _ _ h => h)
            have NV6 := Has.box w5 9 1 1 [.string v] rfl (by unfold maxLen; omega)
            have KC6 := KC5.alloc (.cells #[.string v] 9)
            dsimp only [List.toArray] at NV6
            generalize w5.alloc (.cells #[.string v] 9) = w6 at *
            refine hK.out _ _ (fun _ => HS _ KC6) ?_
            clear hK K
            try simp only [Act.put, List.setIfInBounds_toArray, List.set_cons_zero, List.set_cons_succ]
            refine wpU_ready (rs := [21]) (by kernel_rfl) (by simp) ?_
            refine (AllReadyU.cons (o := ⟨some 97, _, _, _, _, _⟩) rfl (fun K hK => ?_) AllReadyU.nil)
            · skip
              refine step_append_has rfl (.tmp 94) (.tmp 96) 57 rfl iS _ 16 Try.underlying57 hS0 hS1 hS2 hS3 rfl (by omega) (by simp [Act.eval, Act.put]) XV6 (some ⟨w5.heap.size, 0, none⟩) 1 1 [.string v] (by simp [Act.eval, Act.put]) NV6 (by intro u hu; simp at hu; subst hu; rfl) (by unfold maxLen; omega) (by omega) (Nat.zero_le _) ?_
              intro v7 w7 XV7 g7 at7
              obtain ⟨Vn, vn, hv⟩ := own_shape XV7
              subst hv
              have kk : Keeps (fun b => (Value.slice s.V ps.length s.v).ownBlock = some b) w6 w7 := keeps_grown (Keeps.refl _ _) g7 (fun g h => .inl h)
              have XI7 := own_kept XI6 kk (fun g _ _ hg hs => types_ne (Has.of_own XV6) (Has.of_own XI6) (by decide) hs hg)
              have XG7 := own_kept XG6 kk (fun g _ _ hg hs => types_ne (Has.of_own XV6) (Has.of_own XG6) (by decide) hs hg)
              have KC7 : Keeps (Rows s) w w7 := keeps_grown KC6 g7 (fun g h => .inl (.inr (.inr ((ob_eq s.V ps.length s.v).symm.trans h))))
              have zV : ob Vn = ob s.V ∨ ∃ b, ob Vn = some b ∧ w.heap.size ≤ b := at7.imp (fun h => (ob_eq _ _ _).symm.trans (h.trans (ob_eq _ _ _))) (fun h => ⟨_, (ob_eq _ _ _).symm.trans h, KC6.size⟩)
              clear g7 at7 kk
              refine hK.out _ _ (fun _ => HS _ KC7) ?_
              clear hK K
              try simp only [Act.put, List.setIfInBounds_toArray, List.set_cons_zero, List.set_cons_succ]
              refine wpU_take (i := 22) (oi := ⟨some 98, _, _, _, _, _⟩) (v := ?_) rfl (by kernel_rfl) (by kernel_rfl) (by kernel_rfl) (fun _ _ _ h => h) (by decide) (fun _ => HS _ KC7) (Or.inl ⟨by kernel_rfl, ?_⟩) ?_
              rotate_left
              · intro w hSw; go_simp; try with_reducible rfl
              rotate_left
              try simp only [Act.put, List.setIfInBounds_toArray, List.set_cons_zero, List.set_cons_succ]
              refine wpU_take (i := 23) (oi := ⟨some 99, _, _, _, _, _⟩) (v := ?_) rfl (by kernel_rfl) (by kernel_rfl) (by kernel_rfl) (fun _ _ _ h => h) (by decide) (fun _ => HS _ KC7) (Or.inl ⟨by kernel_rfl, ?_⟩) ?_
              rotate_left
              · intro w hSw; go_simp; try with_reducible rfl
              rotate_left
              try simp only [Act.put, List.setIfInBounds_toArray, List.set_cons_zero, List.set_cons_succ]
              have BC0 := h.Bl.kept KC7 HP
              have bc0 := BC0.cellAt (i := 1) rfl
              have fc0 := BC0.frozen
              refine wpU_ready (rs := [24]) (by kernel_rfl) (by simp) ?_
              refine AllReadyU.cons (o := ⟨none, _, _, _, _, _⟩) rfl (fun K hK => ?_) AllReadyU.nil
              go_simp
              refine hK.out _ _ (fun h => absurd h (by decide)) ?_
              clear hK K
              try simp only [Act.put, List.setIfInBounds_toArray, List.set_cons_zero, List.set_cons_succ]
              have BC1 := BC0.set_ 1 (.slice An (ps.length + 1) an)
              refine wpU_take (i := 25) (oi := ⟨some 100, _, _, _, _, _⟩) (v := ?_) rfl (by kernel_rfl) (by kernel_rfl) (by kernel_rfl) (fun _ _ _ h => h) (by decide) (fun h => absurd h (by decide)) (Or.inl ⟨by kernel_rfl, ?_⟩) ?_
              rotate_left
              · intro w hSw; go_simp; try with_reducible rfl
              rotate_left
              try simp only [Act.put, List.setIfInBounds_toArray, List.set_cons_zero, List.set_cons_succ]
              refine wpU_take (i := 26) (oi := ⟨some 101, _, _, _, _, _⟩) (v := ?_) rfl (by kernel_rfl) (by kernel_rfl) (by kernel_rfl) (fun _ _ _ h => h) (by decide) (fun h => absurd h (by decide)) (Or.inl ⟨by kernel_rfl, ?_⟩) ?_
              rotate_left
              · intro w hSw; go_simp; try with_reducible rfl
              rotate_left
              try simp only [Act.put, List.setIfInBounds_toArray, List.set_cons_zero, List.set_cons_succ]
              have bc1 := BC1.cellAt (i := 2) rfl
              have fc1 := BC1.frozen
              refine wpU_ready (rs := [27]) (by kernel_rfl) (by simp) ?_
              refine AllReadyU.cons (o := ⟨none, _, _, _, _, _⟩) rfl (fun K hK => ?_) AllReadyU.nil
              go_simp
              refine hK.out _ _ (fun h => absurd h (by decide)) ?_
              clear hK K
              try simp only [Act.put, List.setIfInBounds_toArray, List.set_cons_zero, List.set_cons_succ]
              have BC2 := BC1.set_ 2 (.slice Gn (ps.length + 1) gn)
              refine wpU_take (i := 28) (oi := ⟨some 102, _, _, _, _, _⟩) (v := ?_) rfl (by kernel_rfl) (by kernel_rfl) (by kernel_rfl) (fun _ _ _ h => h) (by decide) (fun h => absurd h (by decide)) (Or.inl ⟨by kernel_rfl, ?_⟩) ?_
              rotate_left
              · intro w hSw; go_simp; try with_reducible rfl
              rotate_left
              try simp only [Act.put, List.setIfInBounds_toArray, List.set_cons_zero, List.set_cons_succ]
              refine wpU_take (i := 29) (oi := ⟨some 103, _, _, _, _, _⟩) (v := ?_) rfl (by kernel_rfl) (by kernel_rfl) (by kernel_rfl) (fun _ _ _ h => h) (by decide) (fun h => absurd h (by decide)) (Or.inl ⟨by kernel_rfl, ?_⟩) ?_
              rotate_left
              · intro w hSw; go_simp; try with_reducible rfl
              rotate_left
              try simp only [Act.put, List.setIfInBounds_toArray, List.set_cons_zero, List.set_cons_succ]
              have bc2 := BC2.cellAt (i := 3) rfl
              have fc2 := BC2.frozen
              refine wpU_ready (rs := [30]) (by kernel_rfl) (by simp) ?_
              refine AllReadyU.cons (o := ⟨none, _, _, _, _, _⟩) rfl (fun K hK => ?_) AllReadyU.nil
              go_simp
              refine hK.out _ _ (fun h => absurd h (by decide)) ?_
              clear hK K
              try simp only [Act.put, List.setIfInBounds_toArray, List.set_cons_zero, List.set_cons_succ]
              have BC3 := BC2.set_ 3 (.slice Vn (ps.length + 1) vn)
              refine wpU_done (by kernel_rfl) ?_ _
              have d3 := BC3.cellAt (i := 3) rfl
              go_wp2_with fail
              exact bodyPost_ret (v := .tuple #[.int .i64 (ps.length : Int), .int .i64 1, .int .i64 0]) (by simp [results, Try.results37, go_sem, hw]) rfl ⟨rfl, ⟨⟨An, an, Gn, gn, Vn, vn, s.B, s.b⟩, h.grown KC7 XI7 XG7 XV7, foot_grown zI zG zV⟩, keeps_rows KC7 _ _ _⟩
        · skip
          go_simp
          have kA := (Keeps.refl (fun _ => False) w4).alloc (.cells #[.string v] 9)
          have XI5 := own_kept XI4 kA (fun _ _ _ _ h => h)
          have XG5 := own_kept XG4 kA (fun _ _ _ _ h => h)
          have XV5 := own_kept XV4 kA (fun _ _ _ _ h => h)
          have NG5 := NG4.kept kA (fun _ _ _ _ h => h)
          have NV5 := Has.box w4 9 1 1 [.string v] rfl (by unfold maxLen; omega)
          have KC5 := KC4.alloc (.cells #[.string v] 9)
          dsimp only [List.toArray] at NV5
          generalize w4.alloc (.cells #[.string v] 9) = w5 at *
          refine hK.out _ _ (fun _ => HS _ KC5) ?_
          clear hK K
          try simp only [Act.put, List.setIfInBounds_toArray, List.set_cons_zero, List.set_cons_succ]
          refine wpU_ready (rs := [14]) (by kernel_rfl) (by simp) ?_
          refine (AllReadyU.cons (o := ⟨some 90, _, _, _, _, _⟩) rfl (fun K hK => ?_) AllReadyU.nil)
          · skip
            refine step_append_has rfl (.tmp 88) (.tmp 89) 56 rfl iL _ 8 Try.underlying56 hL0 hL1 hL2 hL3 rfl (by omega) (by simp [Act.eval, Act.put]) XG5 (some ⟨w1.heap.size, 0, none⟩) 1 1 [.int .i64 1] (by simp [Act.eval, Act.put]) NG5 (by intro u hu; simp at hu; subst hu; rfl) (by unfold maxLen; omega) (by omega) (Nat.zero_le _) ?_
            intro v6 w6 XG6 g6 at6
            obtain ⟨Gn, gn, hv⟩ := own_shape XG6
            subst hv
            have kk : Keeps (fun b => (Value.slice s.G ps.length s.g).ownBlock = some b) w5 w6 := keeps_grown (Keeps.refl _ _) g6 (fun g h => .inl h)
            have XI6 := own_kept XI5 kk (fun g _ _ hg hs => types_ne (Has.of_own XG5) (Has.of_own XI5) (by decide) hs hg)
            have XV6 := own_kept XV5 kk (fun g _ _ hg hs => types_ne (Has.of_own XG5) (Has.of_own XV5) (by decide) hs hg)
            have NV6 := NV5.kept kk (fun g _ _ hg hs => types_ne (Has.of_own XG5) NV5 (by decide) hs hg)
            have KC6 : Keeps (Rows s) w w6 := keeps_grown KC5 g6 (fun g h => .inl (.inr (.inl ((ob_eq s.G ps.length s.g).symm.trans h))))
            have zG : ob Gn = ob s.G ∨ ∃ b, ob Gn = some b ∧ w.heap.size ≤ b := at6.imp (fun h => (ob_eq _ _ _).symm.trans (h.trans (ob_eq _ _ _))) (fun h => ⟨_, (ob_eq _ _ _).symm.trans h, KC5.size⟩)
            clear g6 at6 kk
            refine hK.out _ _ (fun _ => HS _ KC6) ?_
            clear hK K
            try simp only [Act.put, List.setIfInBounds_toArray, List.set_cons_zero, List.set_cons_succ]
            refine wpU_ready (rs := [21]) (by kernel_rfl) (by simp) ?_
            refine (AllReadyU.cons (o := ⟨some 97, _, _, _, _, _⟩) rfl (fun K hK => ?_) AllReadyU.nil)
            · skip
              refine step_append_has rfl (.tmp 94) (.tmp 96) 57 rfl iS _ 16 Try.underlying57 hS0 hS1 hS2 hS3 rfl (by omega) (by simp [Act.eval, Act.put]) XV6 (some ⟨w4.heap.size, 0, none⟩) 1 1 [.string v] (by simp [Act.eval, Act.put]) NV6 (by intro u hu; simp at hu; subst hu; rfl) (by unfold maxLen; omega) (by omega) (Nat.zero_le _) ?_
              intro v7 w7 XV7 g7 at7
              obtain ⟨Vn, vn, hv⟩ := own_shape XV7
              subst hv
              have kk : Keeps (fun b => (Value.slice s.V ps.length s.v).ownBlock = some b) w6 w7 := keeps_grown (Keeps.refl _ _) g7 (fun g h => .inl h)
              have XI7 := own_kept XI6 kk (fun g _ _ hg hs => types_ne (Has.of_own XV6) (Has.of_own XI6) (by decide) hs hg)
              have XG7 := own_kept XG6 kk (fun g _ _ hg hs => types_ne (Has.of_own XV6) (Has.of_own XG6) (by decide) hs hg)
              have KC7 : Keeps (Rows s) w w7 := keeps_grown KC6 g7 (fun g h => .inl (.inr (.inr ((ob_eq s.V ps.length s.v).symm.trans h))))
              have zV : ob Vn = ob s.V ∨ ∃ b, ob Vn = some b ∧ w.heap.size ≤ b := at7.imp (fun h => (ob_eq _ _ _).symm.trans (h.trans (ob_eq _ _ _))) (fun h => ⟨_, (ob_eq _ _ _).symm.trans h, KC6.size⟩)
              clear g7 at7 kk
              refine hK.out _ _ (fun _ => HS _ KC7) ?_
              clear hK K
              try simp only [Act.put, List.setIfInBounds_toArray, List.set_cons_zero, List.set_cons_succ]
              refine wpU_take (i := 22) (oi := ⟨some 98, _, _, _, _, _⟩) (v := ?_) rfl (by kernel_rfl) (by kernel_rfl) (by kernel_rfl) (fun _ _ _ h => h) (by decide) (fun _ => HS _ KC7) (Or.inl ⟨by kernel_rfl, ?_⟩) ?_
              rotate_left
              · intro w hSw; go_simp; try with_reducible rfl
              rotate_left
              try simp only [Act.put, List.setIfInBounds_toArray, List.set_cons_zero, List.set_cons_succ]
              refine wpU_take (i := 23) (oi := ⟨some 99, _, _, _, _, _⟩) (v := ?_) rfl (by kernel_rfl) (by kernel_rfl) (by kernel_rfl) (fun _ _ _ h => h) (by decide) (fun _ => HS _ KC7) (Or.inl ⟨by kernel_rfl, ?_⟩) ?_
              rotate_left
              · intro w hSw; go_simp; try with_reducible rfl
              rotate_left
              try simp only [Act.put, List.setIfInBounds_toArray, List.set_cons_zero, List.set_cons_succ]
              have BC0 := h.Bl.kept KC7 HP
              have bc0 := BC0.cellAt (i := 1) rfl
              have fc0 := BC0.frozen
              refine wpU_ready (rs := [24]) (by kernel_rfl) (by simp) ?_
              refine AllReadyU.cons (o := ⟨none, _, _, _, _, _⟩) rfl (fun K hK => ?_) AllReadyU.nil
              go_simp
              refine hK.out _ _ (fun h => absurd h (by decide)) ?_
              clear hK K
              try simp only [Act.put, List.setIfInBounds_toArray, List.set_cons_zero, List.set_cons_succ]
              have BC1 := BC0.set_ 1 (.slice An (ps.length + 1) an)
              refine wpU_take (i := 25) (oi := ⟨some 100, _, _, _, _, _⟩) (v := ?_) rfl (by kernel_rfl) (by kernel_rfl) (by kernel_rfl) (fun _ _ _ h => h) (by decide) (fun h => absurd h (by decide)) (Or.inl ⟨by kernel_rfl, ?_⟩) ?_
              rotate_left
              · intro w hSw; go_simp; try with_reducible rfl
              rotate_left
              try simp only [Act.put, List.setIfInBounds_toArray, List.set_cons_zero, List.set_cons_succ]
              refine wpU_take (i := 26) (oi := ⟨some 101, _, _, _, _, _⟩) (v := ?_) rfl (by kernel_rfl) (by kernel_rfl) (by kernel_rfl) (fun _ _ _ h => h) (by decide) (fun h => absurd h (by decide)) (Or.inl ⟨by kernel_rfl, ?_⟩) ?_
              rotate_left
              · intro w hSw; go_simp; try with_reducible rfl
              rotate_left
              try simp only [Act.put, List.setIfInBounds_toArray, List.set_cons_zero, List.set_cons_succ]
              have bc1 := BC1.cellAt (i := 2) rfl
              have fc1 := BC1.frozen
              refine wpU_ready (rs := [27]) (by kernel_rfl) (by simp) ?_
              refine AllReadyU.cons (o := ⟨none, _, _, _, _, _⟩) rfl (fun K hK => ?_) AllReadyU.nil
              go_simp
              refine hK.out _ _ (fun h => absurd h (by decide)) ?_
              clear hK K
              try simp only [Act.put, List.setIfInBounds_toArray, List.set_cons_zero, List.set_cons_succ]
              have BC2 := BC1.set_ 2 (.slice Gn (ps.length + 1) gn)
              refine wpU_take (i := 28) (oi := ⟨some 102, _, _, _, _, _⟩) (v := ?_) rfl (by kernel_rfl) (by kernel_rfl) (by kernel_rfl) (fun _ _ _ h => h) (by decide) (fun h => absurd h (by decide)) (Or.inl ⟨by kernel_rfl, ?_⟩) ?_
              rotate_left
              · intro w hSw; go_simp; try with_reducible rfl
              rotate_left
              try simp only [Act.put, List.setIfInBounds_toArray, List.set_cons_zero, List.set_cons_succ]
              refine wpU_take (i := 29) (oi := ⟨some 103, _, _, _, _, _⟩) (v := ?_) rfl (by kernel_rfl) (by kernel_rfl) (by kernel_rfl) (fun _ _ _ h => h) (by decide) (fun h => absurd h (by decide)) (Or.inl ⟨by kernel_rfl, ?_⟩) ?_
              rotate_left
              · intro w hSw; go_simp; try with_reducible rfl
              rotate_left
              try simp only [Act.put, List.setIfInBounds_toArray, List.set_cons_zero, List.set_cons_succ]
              have bc2 := BC2.cellAt (i := 3) rfl
              have fc2 := BC2.frozen
              refine wpU_ready (rs := [30]) (by kernel_rfl) (by simp) ?_
              refine AllReadyU.cons (o := ⟨none, _, _, _, _, _⟩) rfl (fun K hK => ?_) AllReadyU.nil
              go_simp
              refine hK.out _ _ (fun h => absurd h (by decide)) ?_
              clear hK K
              try simp only [Act.put, List.setIfInBounds_toArray, List.set_cons_zero, List.set_cons_succ]
              have BC3 := BC2.set_ 3 (.slice Vn (ps.length + 1) vn)
              refine wpU_done (by kernel_rfl) ?_ _
              have d3 := BC3.cellAt (i := 3) rfl
              go_wp2_with fail
              exact bodyPost_ret (v := .tuple #[.int .i64 (ps.length : Int), .int .i64 1, .int .i64 0]) (by simp [results, Try.results37, go_sem, hw]) rfl ⟨rfl, ⟨⟨An, an, Gn, gn, Vn, vn, s.B, s.b⟩, h.grown KC7 XI7 XG7 XV7, foot_grown zI zG zV⟩, keeps_rows KC7 _ _ _⟩
      · skip
        go_simp
        have kA := (Keeps.refl (fun _ => False) w3).alloc (.cells #[.string v] 9)
        have XI4 := own_kept XI3 kA (fun _ _ _ _ h => h)
        have XG4 := own_kept XG3 kA (fun _ _ _ _ h => h)
        have XV4 := own_kept XV3 kA (fun _ _ _ _ h => h)
        have NI4 := NI3.kept kA (fun _ _ _ _ h => h)
        have NG4 := NG3.kept kA (fun _ _ _ _ h => h)
        have NV4 := Has.box w3 9 1 1 [.string v] rfl (by unfold maxLen; omega)
        have KC4 := KC3.alloc (.cells #[.string v] 9)
        dsimp only [List.toArray] at NV4
        generalize w3.alloc (.cells #[.string v] 9) = w4 at *
        refine hK.out _ _ (fun _ => HS _ KC4) ?_
        clear hK K
        try simp only [Act.put, List.setIfInBounds_toArray, List.set_cons_zero, List.set_cons_succ]
        refine wpU_ready (rs := [8]) (by kernel_rfl) (by simp) ?_
        refine (AllReadyU.cons (o := ⟨some 84, _, _, _, _, _⟩) rfl (fun K hK => ?_) AllReadyU.nil)
        · skip
          refine step_append_has rfl (.tmp 82) (.tmp 83) 32 rfl iB _ 1 Try.underlying32 hB0 hB1 hB2 hB3 rfl (by omega) (by simp [Act.eval, Act.put]) XI4 (some ⟨w2.heap.size, 0, none⟩) 1 1 [.bool true] (by simp [Act.eval, Act.put]) NI4 (by intro u hu; simp at hu; subst hu; rfl) (by unfold maxLen; omega) (by omega) (Nat.zero_le _) ?_
          intro v5 w5 XI5 g5 at5
          obtain ⟨An, an, hv⟩ := own_shape XI5
          subst hv
          have kk : Keeps (fun b => (Value.slice s.A ps.length s.a).ownBlock = some b) w4 w5 := keeps_grown (Keeps.refl _ _) g5 (fun g h => .inl h)
          have XG5 := own_kept XG4 kk (fun g _ _ hg hs => types_ne (Has.of_own XI4) (Has.of_own XG4) (by decide) hs hg)
          have NG5 := NG4.kept kk (fun g _ _ hg hs => types_ne (Has.of_own XI4) NG4 (by decide) hs hg)
          have XV5 := own_kept XV4 kk (fun g _ _ hg hs => types_ne (Has.of_own XI4) (Has.of_own XV4) (by decide) hs hg)
          have NV5 := NV4.kept kk (fun g _ _ hg hs => types_ne (Has.of_own XI4) NV4 (by decide) hs hg)
          have KC5 : Keeps (Rows s) w w5 := keeps_grown KC4 g5 (fun g h => .inl (.inl ((ob_eq s.A ps.length s.a).symm.trans h)))
          have zI : ob An = ob s.A ∨ ∃ b, ob An = some b ∧ w.heap.size ≤ b := at5.imp (fun h => (ob_eq _ _ _).symm.trans (h.trans (ob_eq _ _ _))) (fun h => ⟨_, (ob_eq _ _ _).symm.trans h, KC4.size⟩)
          clear g5 at5 kk
          refine hK.out _ _ (fun _ => HS _ KC5) ?_
          clear hK K
          try simp only [Act.put, List.setIfInBounds_toArray, List.set_cons_zero, List.set_cons_succ]
          refine wpU_ready (rs := [14]) (by kernel_rfl) (by simp) ?_
          refine (AllReadyU.cons (o := ⟨some 90, _, _, _, _, _⟩) rfl (fun K hK => ?_) AllReadyU.nil)
          · skip
            refine step_append_has rfl (.tmp 88) (.tmp 89) 56 rfl iL _ 8 Try.underlying56 hL0 hL1 hL2 hL3 rfl (by omega) (by simp [Act.eval, Act.put]) XG5 (some ⟨w1.heap.size, 0, none⟩) 1 1 [.int .i64 1] (by simp [Act.eval, Act.put]) NG5 (by intro u hu; simp at hu; subst hu; rfl) (by unfold maxLen; omega) (by omega) (Nat.zero_le _) ?_
            intro v6 w6 XG6 g6 at6
            obtain ⟨Gn, gn, hv⟩ := own_shape XG6
            subst hv
            have kk : Keeps (fun b => (Value.slice s.G ps.length s.g).ownBlock = some b) w5 w6 := keeps_grown (Keeps.refl _ _) g6 (fun g h => .inl h)
            have XI6 := own_kept XI5 kk (fun g _ _ hg hs => types_ne (Has.of_own XG5) (Has.of_own XI5) (by decide) hs hg)
            have XV6 := own_kept XV5 kk (fun g _ _ hg hs => types_ne (Has.of_own XG5) (Has.of_own XV5) (by decide) hs hg)
            have NV6 := NV5.kept kk (fun g _ _ hg hs => types_ne (Has.of_own XG5) NV5 (by decide) hs hg)
            have KC6 : Keeps (Rows s) w w6 := keeps_grown KC5 g6 (fun g h => .inl (.inr (.inl ((ob_eq s.G ps.length s.g).symm.trans h))))
            have zG : ob Gn = ob s.G ∨ ∃ b, ob Gn = some b ∧ w.heap.size ≤ b := at6.imp (fun h => (ob_eq _ _ _).symm.trans (h.trans (ob_eq _ _ _))) (fun h => ⟨_, (ob_eq _ _ _).symm.trans h, KC5.size⟩)
            clear g6 at6 kk
            refine hK.out _ _ (fun _ => HS _ KC6) ?_
            clear hK K
            try simp only [Act.put, List.setIfInBounds_toArray, List.set_cons_zero, List.set_cons_succ]
            refine wpU_ready (rs := [21]) (by kernel_rfl) (by simp) ?_
            refine (AllReadyU.cons (o := ⟨some 97, _, _, _, _, _⟩) rfl (fun K hK => ?_) AllReadyU.nil)
            · skip
              refine step_append_has rfl (.tmp 94) (.tmp 96) 57 rfl iS _ 16 Try.underlying57 hS0 hS1 hS2 hS3 rfl (by omega) (by simp [Act.eval, Act.put]) XV6 (some ⟨w3.heap.size, 0, none⟩) 1 1 [.string v] (by simp [Act.eval, Act.put]) NV6 (by intro u hu; simp at hu; subst hu; rfl) (by unfold maxLen; omega) (by omega) (Nat.zero_le _) ?_
              intro v7 w7 XV7 g7 at7
              obtain ⟨Vn, vn, hv⟩ := own_shape XV7
              subst hv
              have kk : Keeps (fun b => (Value.slice s.V ps.length s.v).ownBlock = some b) w6 w7 := keeps_grown (Keeps.refl _ _) g7 (fun g h => .inl h)
              have XI7 := own_kept XI6 kk (fun g _ _ hg hs => types_ne (Has.of_own XV6) (Has.of_own XI6) (by decide) hs hg)
              have XG7 := own_kept XG6 kk (fun g _ _ hg hs => types_ne (Has.of_own XV6) (Has.of_own XG6) (by decide) hs hg)
              have KC7 : Keeps (Rows s) w w7 := keeps_grown KC6 g7 (fun g h => .inl (.inr (.inr ((ob_eq s.V ps.length s.v).symm.trans h))))
              have zV : ob Vn = ob s.V ∨ ∃ b, ob Vn = some b ∧ w.heap.size ≤ b := at7.imp (fun h => (ob_eq _ _ _).symm.trans (h.trans (ob_eq _ _ _))) (fun h => ⟨_, (ob_eq _ _ _).symm.trans h, KC6.size⟩)
              clear g7 at7 kk
              refine hK.out _ _ (fun _ => HS _ KC7) ?_
              clear hK K
              try simp only [Act.put, List.setIfInBounds_toArray, List.set_cons_zero, List.set_cons_succ]
              refine wpU_take (i := 22) (oi := ⟨some 98, _, _, _, _, _⟩) (v := ?_) rfl (by kernel_rfl) (by kernel_rfl) (by kernel_rfl) (fun _ _ _ h => h) (by decide) (fun _ => HS _ KC7) (Or.inl ⟨by kernel_rfl, ?_⟩) ?_
              rotate_left
              · intro w hSw; go_simp; try with_reducible rfl
              rotate_left
              try simp only [Act.put, List.setIfInBounds_toArray, List.set_cons_zero, List.set_cons_succ]
              refine wpU_take (i := 23) (oi := ⟨some 99, _, _, _, _, _⟩) (v := ?_) rfl (by kernel_rfl) (by kernel_rfl) (by kernel_rfl) (fun _ _ _ h => h) (by decide) (fun _ => HS _ KC7) (Or.inl ⟨by kernel_rfl, ?_⟩) ?_
              rotate_left
              · intro w hSw; go_simp; try with_reducible rfl
              rotate_left
              try simp only [Act.put, List.setIfInBounds_toArray, List.set_cons_zero, List.set_cons_succ]
              have BC0 := h.Bl.kept KC7 HP
              have bc0 := BC0.cellAt (i := 1) rfl
              have fc0 := BC0.frozen
              refine wpU_ready (rs := [24]) (by kernel_rfl) (by simp) ?_
              refine AllReadyU.cons (o := ⟨none, _, _, _, _, _⟩) rfl (fun K hK => ?_) AllReadyU.nil
              go_simp
              refine hK.out _ _ (fun h => absurd h (by decide)) ?_
              clear hK K
              try simp only [Act.put, List.setIfInBounds_toArray, List.set_cons_zero, List.set_cons_succ]
              have BC1 := BC0.set_ 1 (.slice An (ps.length + 1) an)
              refine wpU_take (i := 25) (oi := ⟨some 100, _, _, _, _, _⟩) (v := ?_) rfl (by kernel_rfl) (by kernel_rfl) (by kernel_rfl) (fun _ _ _ h => h) (by decide) (fun h => absurd h (by decide)) (Or.inl ⟨by kernel_rfl, ?_⟩) ?_
              rotate_left
              · intro w hSw; go_simp; try with_reducible rfl
              rotate_left
              try simp only [Act.put, List.setIfInBounds_toArray, List.set_cons_zero, List.set_cons_succ]
              refine wpU_take (i := 26) (oi := ⟨some 101, _, _, _, _, _⟩) (v := ?_) rfl (by kernel_rfl) (by kernel_rfl) (by kernel_rfl) (fun _ _ _ h => h) (by decide) (fun h => absurd h (by decide)) (Or.inl ⟨by kernel_rfl, ?_⟩) ?_
              rotate_left
              · intro w hSw; go_simp; try with_reducible rfl
              rotate_left
              try simp only [Act.put, List.setIfInBounds_toArray, List.set_cons_zero, List.set_cons_succ]
              have bc1 := BC1.cellAt (i := 2) rfl
              have fc1 := BC1.frozen
              refine wpU_ready (rs := [27]) (by kernel_rfl) (by simp) ?_
              refine AllReadyU.cons (o := ⟨none, _, _, _, _, _⟩) rfl (fun K hK => ?_) AllReadyU.nil
              go_simp
              refine hK.out _ _ (fun h => absurd h (by decide)) ?_
              clear hK K
              try simp only [Act.put, List.setIfInBounds_toArray, List.set_cons_zero, List.set_cons_succ]
              have BC2 := BC1.set_ 2 (.slice Gn (ps.length + 1) gn)
              refine wpU_take (i := 28) (oi := ⟨some 102, _, _, _, _, _⟩) (v := ?_) rfl (by kernel_rfl) (by kernel_rfl) (by kernel_rfl) (fun _ _ _ h => h) (by decide) (fun h => absurd h (by decide)) (Or.inl ⟨by kernel_rfl, ?_⟩) ?_
              rotate_left
              · intro w hSw; go_simp; try with_reducible rfl
              rotate_left
              try simp only [Act.put, List.setIfInBounds_toArray, List.set_cons_zero, List.set_cons_succ]
              refine wpU_take (i := 29) (oi := ⟨some 103, _, _, _, _, _⟩) (v := ?_) rfl (by kernel_rfl) (by kernel_rfl) (by kernel_rfl) (fun _ _ _ h => h) (by decide) (fun h => absurd h (by decide)) (Or.inl ⟨by kernel_rfl, ?_⟩) ?_
              rotate_left
              · intro w hSw; go_simp; try with_reducible rfl
              rotate_left
              try simp only [Act.put, List.setIfInBounds_toArray, List.set_cons_zero, List.set_cons_succ]
              have bc2 := BC2.cellAt (i := 3) rfl
              have fc2 := BC2.frozen
              refine wpU_ready (rs := [30]) (by kernel_rfl) (by simp) ?_
              refine AllReadyU.cons (o := ⟨none, _, _, _, _, _⟩) rfl (fun K hK => ?_) AllReadyU.nil
              go_simp
              refine hK.out _ _ (fun h => absurd h (by decide)) ?_
              clear hK K
              try simp only [Act.put, List.setIfInBounds_toArray, List.set_cons_zero, List.set_cons_succ]
              have BC3 := BC2.set_ 3 (.slice Vn (ps.length + 1) vn)
              refine wpU_done (by kernel_rfl) ?_ _
              have d3 := BC3.cellAt (i := 3) rfl
              go_wp2_with fail
              exact bodyPost_ret (v := .tuple #[.int .i64 (ps.length : Int), .int .i64 1, .int .i64 0]) (by simp [results, Try.results37, go_sem, hw]) rfl ⟨rfl, ⟨⟨An, an, Gn, gn, Vn, vn, s.B, s.b⟩, h.grown KC7 XI7 XG7 XV7, foot_grown zI zG zV⟩, keeps_rows KC7 _ _ _⟩
    · skip
      go_simp
      have kA := (Keeps.refl (fun _ => False) w2).alloc (.cells #[.string v] 9)
      have XI3 := own_kept XI2 kA (fun _ _ _ _ h => h)
      have XG3 := own_kept XG2 kA (fun _ _ _ _ h => h)
      have XV3 := own_kept XV2 kA (fun _ _ _ _ h => h)
      have NG3 := NG2.kept kA (fun _ _ _ _ h => h)
      have NV3 := Has.box w2 9 1 1 [.string v] rfl (by unfold maxLen; omega)
      have KC3 := KC2.alloc (.cells #[.string v] 9)
      dsimp only [List.toArray] at NV3
      generalize w2.alloc (.cells #[.string v] 9) = w3 at *
      refine hK.out _ _ (fun _ => HS _ KC3) ?_
      clear hK K
      try simp only [Act.put, List.setIfInBounds_toArray, List.set_cons_zero, List.set_cons_succ]
      refine wpU_ready (rs := [7]) (by kernel_rfl) (by simp) ?_
      refine (AllReadyU.cons (o := ⟨some 83, _, _, _, _, _⟩) rfl (fun K hK => ?_) AllReadyU.nil)
      · skip
        go_simp
        have kA := (Keeps.refl (fun _ => False) w3).alloc (.cells #[.bool true] 4)
        have XI4 := own_kept XI3 kA (fun _ _ _ _ h => h)
        have XG4 := own_kept XG3 kA (fun _ _ _ _ h => h)
        have XV4 := own_kept XV3 kA (fun _ _ _ _ h => h)
        have NG4 := NG3.kept kA (fun _ _ _ _ h => h)
        have NV4 := NV3.kept kA (fun _ _ _ _ h => h)
        have NI4 := Has.box w3 4 1 1 [.bool true] rfl (by unfold maxLen; omega)
        have KC4 := KC3.alloc (.cells #[.bool true] 4)
        dsimp only [List.toArray] at NI4
        generalize w3.alloc (.cells #[.bool true] 4) = w4 at *
        refine hK.out _ _ (fun _ => HS _ KC4) ?_
        clear hK K
        try simp only [Act.put, List.setIfInBounds_toArray, List.set_cons_zero, List.set_cons_succ]
        refine wpU_ready (rs := [8]) (by kernel_rfl) (by simp) ?_
        refine (AllReadyU.cons (o := ⟨some 84, _, _, _, _, _⟩) rfl (fun K hK => ?_) AllReadyU.nil)
        · skip
          refine step_append_has rfl (.tmp 82) (.tmp 83) 32 rfl iB _ 1 Try.underlying32 hB0 hB1 hB2 hB3 rfl (by omega) (by simp [Act.eval, Act.put]) XI4 (some ⟨w3.heap.size, 0, none⟩) 1 1 [.bool true] (by simp [Act.eval, Act.put]) NI4 (by intro u hu; simp at hu; subst hu; rfl) (by unfold maxLen; omega) (by omega) (Nat.zero_le _) ?_
          intro v5 w5 XI5 g5 at5
          obtain ⟨An, an, hv⟩ := own_shape XI5
          subst hv
          have kk : Keeps (fun b => (Value.slice s.A ps.length s.a).ownBlock = some b) w4 w5 := keeps_grown (Keeps.refl _ _) g5 (fun g h => .inl h)
          have XG5 := own_kept XG4 kk (fun g _ _ hg hs => types_ne (Has.of_own XI4) (Has.of_own XG4) (by decide) hs hg)
          have NG5 := NG4.kept kk (fun g _ _ hg hs => types_ne (Has.of_own XI4) NG4 (by decide) hs hg)
          have XV5 := own_kept XV4 kk (fun g _ _ hg hs => types_ne (Has.of_own XI4) (Has.of_own XV4) (by decide) hs hg)
          have NV5 := NV4.kept kk (fun g _ _ hg hs => types_ne (Has.of_own XI4) NV4 (by decide) hs hg)
          have KC5 : Keeps (Rows s) w w5 := keeps_grown KC4 g5 (fun g h => .inl (.inl ((ob_eq s.A ps.length s.a).symm.trans h)))
          have zI : ob An = ob s.A ∨ ∃ b, ob An = some b ∧ w.heap.size ≤ b := at5.imp (fun h => (ob_eq _ _ _).symm.trans (h.trans (ob_eq _ _ _))) (fun h => ⟨_, (ob_eq _ _ _).symm.trans h, KC4.size⟩)
          clear g5 at5 kk
          refine hK.out _ _ (fun _ => HS _ KC5) ?_
          clear hK K
          try simp only [Act.put, List.setIfInBounds_toArray, List.set_cons_zero, List.set_cons_succ]
          refine wpU_ready (rs := [14]) (by kernel_rfl) (by simp) ?_
          refine (AllReadyU.cons (o := ⟨some 90, _, _, _, _, _⟩) rfl (fun K hK => ?_) AllReadyU.nil)
          · skip
            refine step_append_has rfl (.tmp 88) (.tmp 89) 56 rfl iL _ 8 Try.underlying56 hL0 hL1 hL2 hL3 rfl (by omega) (by simp [Act.eval, Act.put]) XG5 (some ⟨w1.heap.size, 0, none⟩) 1 1 [.int .i64 1] (by simp [Act.eval, Act.put]) NG5 (by intro u hu; simp at hu; subst hu; rfl) (by unfold maxLen; omega) (by omega) (Nat.zero_le _) ?_
            intro v6 w6 XG6 g6 at6
            obtain ⟨Gn, gn, hv⟩ := own_shape XG6
            subst hv
            have kk : Keeps (fun b => (Value.slice s.G ps.length s.g).ownBlock = some b) w5 w6 := keeps_grown (Keeps.refl _ _) g6 (fun g h => .inl h)
            have XI6 := own_kept XI5 kk (fun g _ _ hg hs => types_ne (Has.of_own XG5) (Has.of_own XI5) (by decide) hs hg)
            have XV6 := own_kept XV5 kk (fun g _ _ hg hs => types_ne (Has.of_own XG5) (Has.of_own XV5) (by decide) hs hg)
            have NV6 := NV5.kept kk (fun g _ _ hg hs => types_ne (Has.of_own XG5) NV5 (by decide) hs hg)
            have KC6 : Keeps (Rows s) w w6 := keeps_grown KC5 g6 (fun g h => .inl (.inr (.inl ((ob_eq s.G ps.length s.g).symm.trans h))))
            have zG : ob Gn = ob s.G ∨ ∃ b, ob Gn = some b ∧ w.heap.size ≤ b := at6.imp (fun h => (ob_eq _ _ _).symm.trans (h.trans (ob_eq _ _ _))) (fun h => ⟨_, (ob_eq _ _ _).symm.trans h, KC5.size⟩)
            clear g6 at6 kk
            refine hK.out _ _ (fun _ => HS _ KC6) ?_
            clear hK K
            try simp only [Act.put, List.setIfInBounds_toArray, List.set_cons_zero, List.set_cons_succ]
            refine wpU_ready (rs := [21]) (by kernel_rfl) (by simp) ?_
            refine (AllReadyU.cons (o := ⟨some 97, _, _, _, _, _⟩) rfl (fun K hK => ?_) AllReadyU.nil)
            · skip
              refine step_append_has rfl (.tmp 94) (.tmp 96) 57 rfl iS _ 16 Try.underlying57 hS0 hS1 hS2 hS3 rfl (by omega) (by simp [Act.eval, Act.put]) XV6 (some ⟨w2.heap.size, 0, none⟩) 1 1 [.string v] (by simp [Act.eval, Act.put]) NV6 (by intro u hu; simp at hu; subst hu; rfl) (by unfold maxLen; omega) (by omega) (Nat.zero_le _) ?_
              intro v7 w7 XV7 g7 at7
              obtain ⟨Vn, vn, hv⟩ := own_shape XV7
              subst hv
              have kk : Keeps (fun b => (Value.slice s.V ps.length s.v).ownBlock = some b) w6 w7 := keeps_grown (Keeps.refl _ _) g7 (fun g h => .inl h)
              have XI7 := own_kept XI6 kk (fun g _ _ hg hs => types_ne (Has.of_own XV6) (Has.of_own XI6) (by decide) hs hg)
              have XG7 := own_kept XG6 kk (fun g _ _ hg hs => types_ne (Has.of_own XV6) (Has.of_own XG6) (by decide) hs hg)
              have KC7 : Keeps (Rows s) w w7 := keeps_grown KC6 g7 (fun g h => .inl (.inr (.inr ((ob_eq s.V ps.length s.v).symm.trans h))))
              have zV : ob Vn = ob s.V ∨ ∃ b, ob Vn = some b ∧ w.heap.size ≤ b := at7.imp (fun h => (ob_eq _ _ _).symm.trans (h.trans (ob_eq _ _ _))) (fun h => ⟨_, (ob_eq _ _ _).symm.trans h, KC6.size⟩)
              clear g7 at7 kk
              refine hK.out _ _ (fun _ => HS _ KC7) ?_
              clear hK K
              try simp only [Act.put, List.setIfInBounds_toArray, List.set_cons_zero, List.set_cons_succ]
              refine wpU_take (i := 22) (oi := ⟨some 98, _, _, _, _, _⟩) (v := ?_) rfl (by kernel_rfl) (by kernel_rfl) (by kernel_rfl) (fun _ _ _ h => h) (by decide) (fun _ => HS _ KC7) (Or.inl ⟨by kernel_rfl, ?_⟩) ?_
              rotate_left
              · intro w hSw; go_simp; try with_reducible rfl
              rotate_left
              try simp only [Act.put, List.setIfInBounds_toArray, List.set_cons_zero, List.set_cons_succ]
              refine wpU_take (i := 23) (oi := ⟨some 99, _, _, _, _, _⟩) (v := ?_) rfl (by kernel_rfl) (by kernel_rfl) (by kernel_rfl) (fun _ _ _ h => h) (by decide) (fun _ => HS _ KC7) (Or.inl ⟨by kernel_rfl, ?_⟩) ?_
              rotate_left
              · intro w hSw; go_simp; try with_reducible rfl
              rotate_left
              try simp only [Act.put, List.setIfInBounds_toArray, List.set_cons_zero, List.set_cons_succ]
              have BC0 := h.Bl.kept KC7 HP
              have bc0 := BC0.cellAt (i := 1) rfl
              have fc0 := BC0.frozen
              refine wpU_ready (rs := [24]) (by kernel_rfl) (by simp) ?_
              refine AllReadyU.cons (o := ⟨none, _, _, _, _, _⟩) rfl (fun K hK => ?_) AllReadyU.nil
              go_simp
              refine hK.out _ _ (fun h => absurd h (by decide)) ?_
              clear hK K
              try simp only [Act.put, List.setIfInBounds_toArray, List.set_cons_zero, List.set_cons_succ]
              have BC1 := BC0.set_ 1 (.slice An (ps.length + 1) an)
              refine wpU_take (i := 25) (oi := ⟨some 100, _, _, _, _, _⟩) (v := ?_) rfl (by kernel_rfl) (by kernel_rfl) (by kernel_rfl) (fun _ _ _ h => h) (by decide) (fun h => absurd h (by decide)) (Or.inl ⟨by kernel_rfl, ?_⟩) ?_
              rotate_left
              · intro w hSw; go_simp; try with_reducible rfl
              rotate_left
              try simp only [Act.put, List.setIfInBounds_toArray, List.set_cons_zero, List.set_cons_succ]
              refine wpU_take (i := 26) (oi := ⟨some 101, _, _, _, _, _⟩) (v := ?_) rfl (by kernel_rfl) (by kernel_rfl) (by kernel_rfl) (fun _ _ _ h => h) (by decide) (fun h => absurd h (by decide)) (Or.inl ⟨by kernel_rfl, ?_⟩) ?_
              rotate_left
              · intro w hSw; go_simp; try with_reducible rfl
              rotate_left
              try simp only [Act.put, List.setIfInBounds_toArray, List.set_cons_zero, List.set_cons_succ]
              have bc1 := BC1.cellAt (i := 2) rfl
              have fc1 := BC1.frozen
              refine wpU_ready (rs := [27]) (by kernel_rfl) (by simp) ?_
              refine AllReadyU.cons (o := ⟨none, _, _, _, _, _⟩) rfl (fun K hK => ?_) AllReadyU.nil
              go_simp
              refine hK.out _ _ (fun h => absurd h (by decide)) ?_
              clear hK K
              try simp only [Act.put, List.setIfInBounds_toArray, List.set_cons_zero, List.set_cons_succ]
              have BC2 := BC1.set_ 2 (.slice Gn (ps.length + 1) gn)
              refine wpU_take (i := 28) (oi := ⟨some 102, _, _, _, _, _⟩) (v := ?_) rfl (by kernel_rfl) (by kernel_rfl) (by kernel_rfl) (fun _ _ _ h => h) (by decide) (fun h => absurd h (by decide)) (Or.inl ⟨by kernel_rfl, ?_⟩) ?_
              rotate_left
              · intro w hSw; go_simp; try with_reducible rfl
              rotate_left
              try simp only [Act.put, List.setIfInBounds_toArray, List.set_cons_zero, List.set_cons_succ]
              refine wpU_take (i := 29) (oi := ⟨some 103, _, _, _, _, _⟩) (v := ?_) rfl (by kernel_rfl) (by kernel_rfl) (by kernel_rfl) (fun _ _ _ h => h) (by decide) (fun h => absurd h (by decide)) (Or.inl ⟨by kernel_rfl, ?_⟩) ?_
              rotate_left
              · intro w hSw; go_simp; try with_reducible rfl
              rotate_left
              try simp only [Act.put, List.setIfInBounds_toArray, List.set_cons_zero, List.set_cons_succ]
              have bc2 := BC2.cellAt (i := 3) rfl
              have fc2 := BC2.frozen
              refine wpU_ready (rs := [30]) (by kernel_rfl) (by simp) ?_
              refine AllReadyU.cons (o := ⟨none, _, _, _, _, _⟩) rfl (fun K hK => ?_) AllReadyU.nil
              go_simp
              refine hK.out _ _ (fun h => absurd h (by decide)) ?_
              clear hK K
              try simp only [Act.put, List.setIfInBounds_toArray, List.set_cons_zero, List.set_cons_succ]
              have BC3 := BC2.set_ 3 (.slice Vn (ps.length + 1) vn)
              refine wpU_done (by kernel_rfl) ?_ _
              have d3 := BC3.cellAt (i := 3) rfl
              go_wp2_with fail
              exact bodyPost_ret (v := .tuple #[.int .i64 (ps.length : Int), .int .i64 1, .int .i64 0]) (by simp [results, Try.results37, go_sem, hw]) rfl ⟨rfl, ⟨⟨An, an, Gn, gn, Vn, vn, s.B, s.b⟩, h.grown KC7 XI7 XG7 XV7, foot_grown zI zG zV⟩, keeps_rows KC7 _ _ _⟩
  · skip
    go_simp
    have kA := (Keeps.refl (fun _ => False) w1).alloc (.cells #[.string v] 9)
    have XI2 := own_kept XI1 kA (fun _ _ _ _ h => h)
    have XG2 := own_kept XG1 kA (fun _ _ _ _ h => h)
    have XV2 := own_kept XV1 kA (fun _ _ _ _ h => h)
    have NV2 := Has.box w1 9 1 1 [.string v] rfl (by unfold maxLen; omega)
    have KC2 := KC1.alloc (.cells #[.string v] 9)
    dsimp only [List.toArray] at NV2
    generalize w1.alloc (.cells #[.string v] 9) = w2 at *
    refine hK.out _ _ (fun _ => HS _ KC2) ?_
    clear hK K
    try simp only [Act.put, List.setIfInBounds_toArray, List.set_cons_zero, List.set_cons_succ]
    refine wpU_ready (rs := [7, 13]) (by kernel_rfl) (by simp) ?_
    refine (AllReadyU.cons (o := ⟨some 83, _, _, _, _, _⟩) rfl (fun K hK => ?_) (AllReadyU.cons (o := ⟨some 89, _, _, _, _, _⟩) rfl (fun K hK => ?_) AllReadyU.nil))
    · skip
      go_simp
      have kA := (Keeps.refl (fun _ => False) w2).alloc (.cells #[.bool true] 4)
      have XI3 := own_kept XI2 kA (fun _ _ _ _ h => h)
      have XG3 := own_kept XG2 kA (fun _ _ _ _ h => h)
      have XV3 := own_kept XV2 kA (fun _ _ _ _ h => h)
      have NV3 := NV2.kept kA (fun _ _ _ _ h => h)
      have NI3 := Has.box w2 4 1 1 [.bool true] rfl (by unfold maxLen; omega)
      have KC3 := KC2.alloc (.cells #[.bool true] 4)
      dsimp only [List.toArray] at NI3
      generalize w2.alloc (.cells #[.bool true] 4) = w3 at *
      refine hK.out _ _ (fun _ => HS _ KC3) ?_
      clear hK K
      try simp only [Act.put, List.setIfInBounds_toArray, List.set_cons_zero, List.set_cons_succ]
      refine wpU_ready (rs := [8, 13]) (by kernel_rfl) (by simp) ?_
      refine (AllReadyU.cons (o := ⟨some 84, _, _, _, _, _⟩) rfl (fun K hK => ?_) (AllReadyU.cons (o := ⟨some 89, _, _, _, _, _⟩) rfl (fun K hK => ?_) AllReadyU.nil))
      · skip
        refine step_append_has rfl (.tmp 82) (.tmp 83) 32 rfl iB _ 1 Try.underlying32 hB0 hB1 hB2 hB3 rfl (by omega) (by simp [Act.eval, Act.put]) XI3 (some ⟨w2.heap.size, 0, none⟩) 1 1 [.bool true] (by simp [Act.eval, Act.put]) NI3 (by intro u hu; simp at hu; subst hu; rfl) (by unfold maxLen; omega) (by omega) (Nat.zero_le _) ?_
        intro v4 w4 XI4 g4 at4
        obtain ⟨An, an, hv⟩ := own_shape XI4
        subst hv
        have kk : Keeps (fun b => (Value.slice s.A ps.length s.a).ownBlock = some b) w3 w4 := keeps_grown (Keeps.refl _ _) g4 (fun g h => .inl h)
        have XG4 := own_kept XG3 kk (fun g _ _ hg hs => types_ne (Has.of_own XI3) (Has.of_own XG3) (by decide) hs hg)
        have XV4 := own_kept XV3 kk (fun g _ _ hg hs => types_ne (Has.of_own XI3) (Has.of_own XV3) (by decide) hs hg)
        have NV4 := NV3.kept kk (fun g _ _ hg hs => types_ne (Has.of_own XI3) NV3 (by decide) hs hg)
        have KC4 : Keeps (Rows s) w w4 := keeps_grown KC3 g4 (fun g h => .inl (.inl ((ob_eq s.A ps.length s.a).symm.trans h)))
        have zI : ob An = ob s.A ∨ ∃ b, ob An = some b ∧ w.heap.size ≤ b := at4.imp (fun h => (ob_eq _ _ _).symm.trans (h.trans (ob_eq _ _ _))) (fun h => ⟨_, (ob_eq _ _ _).symm.trans h, KC3.size⟩)
        clear g4 at4 kk
        refine hK.out _ _ (fun _ => HS _ KC4) ?_
        clear hK K
        try simp only [Act.put, List.setIfInBounds_toArray, List.set_cons_zero, List.set_cons_succ]
        refine wpU_ready (rs := [13]) (by kernel_rfl) (by simp) ?_
        refine (AllReadyU.cons (o := ⟨some 89, _, _, _, _, _⟩) rfl (fun K hK => ?_) AllReadyU.nil)
        · skip
          go_simp
          have kA := (Keeps.refl (fun _ => False) w4).alloc (.cells #[.int .i64 1] 2)
          have XI5 := own_kept XI4 kA (fun _ _ _ _ h => h)
          have XG5 := own_kept XG4 kA (fun _ _ _ _ h => h)
          have XV5 := own_kept XV4 kA (fun _ _ _ _ h => h)
          have NV5 := NV4.kept kA (fun _ _ _ _ h => h)
          have NG5 := Has.box w4 2 1 1 [.int .i64 1] rfl (by unfold maxLen; omega)
          have KC5 := KC4.alloc (.cells #[.int .i64 1] 2)
          dsimp only [List.toArray] at NG5
          generalize w4.alloc (.cells #[.int .i64 1] 2) = w5 at *
          refine hK.out _ _ (fun _ => HS _ KC5) ?_
          clear hK K
          try simp only [Act.put, List.setIfInBounds_toArray, List.set_cons_zero, List.set_cons_succ]
          refine wpU_ready (rs := [14]) (by kernel_rfl) (by simp) ?_
          refine (AllReadyU.cons (o := ⟨some 90, _, _, _, _, _⟩) rfl (fun K hK => ?_) AllReadyU.nil)
          · skip
            refine step_append_has rfl (.tmp 88) (.tmp 89) 56 rfl iL _ 8 Try.underlying56 hL0 hL1 hL2 hL3 rfl (by omega) (by simp [Act.eval, Act.put]) XG5 (some ⟨w4.heap.size, 0, none⟩) 1 1 [.int .i64 1] (by simp [Act.eval, Act.put]) NG5 (by intro u hu; simp at hu; subst hu; rfl) (by unfold maxLen; omega) (by omega) (Nat.zero_le _) ?_
            intro v6 w6 XG6 g6 at6
            obtain ⟨Gn, gn, hv⟩ := own_shape XG6
            subst hv
            have kk : Keeps (fun b => (Value.slice s.G ps.length s.g).ownBlock = some b) w5 w6 := keeps_grown (Keeps.refl _ _) g6 (fun g h => .inl h)
            have XI6 := own_kept XI5 kk (fun g _ _ hg hs => types_ne (Has.of_own XG5) (Has.of_own XI5) (by decide) hs hg)
            have XV6 := own_kept XV5 kk (fun g _ _ hg hs => types_ne (Has.of_own XG5) (Has.of_own XV5) (by decide) hs hg)
            have NV6 := NV5.kept kk (fun g _ _ hg hs => types_ne (Has.of_own XG5) NV5 (by decide) hs hg)
            have KC6 : Keeps (Rows s) w w6 := keeps_grown KC5 g6 (fun g h => .inl (.inr (.inl ((ob_eq s.G ps.length s.g).symm.trans h))))
            have zG : ob Gn = ob s.G ∨ ∃ b, ob Gn = some b ∧ w.heap.size ≤ b := at6.imp (fun h => (ob_eq _ _ _).symm.trans (h.trans (ob_eq _ _ _))) (fun h => ⟨_, (ob_eq _ _ _).symm.trans h, KC5.size⟩)
            clear g6 at6 kk
            refine hK.out _ _ (fun _ => HS _ KC6) ?_
            clear hK K
            try simp only [Act.put, List.setIfInBounds_toArray, List.set_cons_zero, List.set_cons_succ]
            refine wpU_ready (rs := [21]) (by kernel_rfl) (by simp) ?_
            refine (AllReadyU.cons (o := ⟨some 97, _, _, _, _, _⟩) rfl (fun K hK => ?_) AllReadyU.nil)
            · skip
              refine step_append_has rfl (.tmp 94) (.tmp 96) 57 rfl iS _ 16 Try.underlying57 hS0 hS1 hS2 hS3 rfl (by omega) (by simp [Act.eval, Act.put]) XV6 (some ⟨w1.heap.size, 0, none⟩) 1 1 [.string v] (by simp [Act.eval, Act.put]) NV6 (by intro u hu; simp at hu; subst hu; rfl) (by unfold maxLen; omega) (by omega) (Nat.zero_le _) ?_
              intro v7 w7 XV7 g7 at7
              obtain ⟨Vn, vn, hv⟩ := own_shape XV7
              subst hv
              have kk : Keeps (fun b => (Value.slice s.V ps.length s.v).ownBlock = some b) w6 w7 := keeps_grown (Keeps.refl _ _) g7 (fun g h => .inl h)
              have XI7 := own_kept XI6 kk (fun g _ _ hg hs => types_ne (Has.of_own XV6) (Has.of_own XI6) (by decide) hs hg)
              have XG7 := own_kept XG6 kk (fun g _ _ hg hs => types_ne (Has.of_own XV6) (Has.of_own XG6) (by decide) hs hg)
              have KC7 : Keeps (Rows s) w w7 := keeps_grown KC6 g7 (fun g h => .inl (.inr (.inr ((ob_eq s.V ps.length s.v).symm.trans h))))
              have zV : ob Vn = ob s.V ∨ ∃ b, ob Vn = some b ∧ w.heap.size ≤ b := at7.imp (fun h => (ob_eq _ _ _).symm.trans (h.trans (ob_eq _ _ _))) (fun h => ⟨_, (ob_eq _ _ _).symm.trans h, KC6.size⟩)
              clear g7 at7 kk
              refine hK.out _ _ (fun _ => HS _ KC7) ?_
              clear hK K
              try simp only [Act.put, List.setIfInBounds_toArray, List.set_cons_zero, List.set_cons_succ]
              refine wpU_take (i := 22) (oi := ⟨some 98, _, _, _, _, _⟩) (v := ?_) rfl (by kernel_rfl) (by kernel_rfl) (by kernel_rfl) (fun _ _ _ h => h) (by decide) (fun _ => HS _ KC7) (Or.inl ⟨by kernel_rfl, ?_⟩) ?_
              rotate_left
              · intro w hSw; go_simp; try with_reducible rfl
              rotate_left
              try simp only [Act.put, List.setIfInBounds_toArray, List.set_cons_zero, List.set_cons_succ]
              refine wpU_take (i := 23) (oi := ⟨some 99, _, _, _, _, _⟩) (v := ?_) rfl (by kernel_rfl) (by kernel_rfl) (by kernel_rfl) (fun _ _ _ h => h) (by decide) (fun _ => HS _ KC7) (Or.inl ⟨by kernel_rfl, ?_⟩) ?_
              rotate_left
              · intro w hSw; go_simp; try with_reducible rfl
              rotate_left
              try simp only [Act.put, List.setIfInBounds_toArray, List.set_cons_zero, List.set_cons_succ]
              have BC0 := h.Bl.kept KC7 HP
              have bc0 := BC0.cellAt (i := 1) rfl
              have fc0 := BC0.frozen
              refine wpU_ready (rs := [24]) (by kernel_rfl) (by simp) ?_
              refine AllReadyU.cons (o := ⟨none, _, _, _, _, _⟩) rfl (fun K hK => ?_) AllReadyU.nil
              go_simp
              refine hK.out _ _ (fun h => absurd h (by decide)) ?_
              clear hK K
              try simp only [Act.put, List.setIfInBounds_toArray, List.set_cons_zero, List.set_cons_succ]
              have BC1 := BC0.set_ 1 (.slice An (ps.length + 1) an)
              refine wpU_take (i := 25) (oi := ⟨some 100, _, _, _, _, _⟩) (v := ?_) rfl (by kernel_rfl) (by kernel_rfl) (by kernel_rfl) (fun _ _ _ h => h) (by decide) (fun h => absurd h (by decide)) (Or.inl ⟨by kernel_rfl, ?_⟩) ?_
              rotate_left
              · intro w hSw; go_simp; try with_reducible rfl
              rotate_left
              try simp only [Act.put, List.setIfInBounds_toArray, List.set_cons_zero, List.set_cons_succ]
              refine wpU_take (i := 26) (oi := ⟨some 101, _, _, _, _, _⟩) (v := ?_) rfl (by kernel_rfl) (by kernel_rfl) (by kernel_rfl) (fun _ _ _ h => h) (by decide) (fun h => absurd h (by decide)) (Or.inl ⟨by kernel_rfl, ?_⟩) ?_
              rotate_left
              · intro w hSw; go_simp; try with_reducible rfl
              rotate_left
              try simp only [Act.put, List.setIfInBounds_toArray, List.set_cons_zero, List.set_cons_succ]
              have bc1 := BC1.cellAt (i := 2) rfl
              have fc1 := BC1.frozen
              refine wpU_ready (rs := [27]) (by kernel_rfl) (by simp) ?_
              refine AllReadyU.cons (o := ⟨none, _, _, _, _, _⟩) rfl (fun K hK => ?_) AllReadyU.nil
              go_simp
              refine hK.out _ _ (fun h => absurd h (by decide)) ?_
              clear hK K
              try simp only [Act.put, List.setIfInBounds_toArray, List.set_cons_zero, List.set_cons_succ]
              have BC2 := BC1.set_ 2 (.slice Gn (ps.length + 1) gn)
              refine wpU_take (i := 28) (oi := ⟨some 102, _, _, _, _, _⟩) (v := ?_) rfl (by kernel_rfl) (by kernel_rfl) (by kernel_rfl) (fun _ _ _ h => h) (by decide) (fun h => absurd h (by decide)) (Or.inl ⟨by kernel_rfl, ?_⟩) ?_
              rotate_left
              · intro w hSw; go_simp; try with_reducible rfl
              rotate_left
              try simp only [Act.put, List.setIfInBounds_toArray, List.set_cons_zero, List.set_cons_succ]
              refine wpU_take (i := 29) (oi := ⟨some 103, _, _, _, _, _⟩) (v := ?_) rfl (by kernel_rfl) (by kernel_rfl) (by kernel_rfl) (fun _ _ _ h => h) (by decide) (fun h => absurd h (by decide)) (Or.inl ⟨by kernel_rfl, ?_⟩) ?_
              rotate_left
              · intro w hSw; go_simp; try with_reducible rfl
              rotate_left
              try simp only [Act.put, List.setIfInBounds_toArray, List.set_cons_zero, List.set_cons_succ]
              have bc2 := BC2.cellAt (i := 3) rfl
              have fc2 := BC2.frozen
              refine wpU_ready (rs := [30]) (by kernel_rfl) (by simp) ?_
              refine AllReadyU.cons (o := ⟨none, _, _, _, _, _⟩) rfl (fun K hK => ?_) AllReadyU.nil
              go_simp
              refine hK.out _ _ (fun h => absurd h (by decide)) ?_
              clear hK K
              try simp only [Act.put, List.setIfInBounds_toArray, List.set_cons_zero, List.set_cons_succ]
              have BC3 := BC2.set_ 3 (.slice Vn (ps.length + 1) vn)
              refine wpU_done (by kernel_rfl) ?_ _
              have d3 := BC3.cellAt (i := 3) rfl
              go_wp2_with fail
              exact bodyPost_ret (v := .tuple #[.int .i64 (ps.length : Int), .int .i64 1, .int .i64 0]) (by simp [results, Try.results37, go_sem, hw]) rfl ⟨rfl, ⟨⟨An, an, Gn, gn, Vn, vn, s.B, s.b⟩, h.grown KC7 XI7 XG7 XV7, foot_grown zI zG zV⟩, keeps_rows KC7 _ _ _⟩
      · skip
        go_simp
        have kA := (Keeps.refl (fun _ => False) w3).alloc (.cells #[.int .i64 1] 2)
        have XI4 := own_kept XI3 kA (fun _ _ _ _ h => h)
        have XG4 := own_kept XG3 kA (fun _ _ _ _ h => h)
        have XV4 := own_kept XV3 kA (fun _ _ _ _ h => h)
        have NI4 := NI3.kept kA (fun _ _ _ _ h => h)
        have NV4 := NV3.kept kA (fun _ _ _ _ h => h)
        have NG4 := Has.box w3 2 1 1 [.int .i64 1] rfl (by unfold maxLen; omega)
        have KC4 := KC3.alloc (.cells #[.int .i64 1] 2)
        dsimp only [List.toArray] at NG4
        generalize w3.alloc (.cells #[.int .i64 1] 2) = w4 at *
        refine hK.out _ _ (fun _ => HS _ KC4) ?_
        clear hK K
        try simp only [Act.put, List.setIfInBounds_toArray, List.set_cons_zero, List.set_cons_succ]
        refine wpU_ready (rs := [8]) (by kernel_rfl) (by simp) ?_
        refine (AllReadyU.cons (o := ⟨some 84, _, _, _, _, _⟩) rfl (fun K hK => ?_) AllReadyU.nil)
        · skip
          refine step_append_has rfl (.tmp 82) (.tmp 83) 32 rfl iB _ 1 Try.underlying32 hB0 hB1 hB2 hB3 rfl (by omega) (by simp [Act.eval, Act.put]) XI4 (some ⟨w2.heap.size, 0, none⟩) 1 1 [.bool true] (by simp [Act.eval, Act.put]) NI4 (by intro u hu; simp at hu; subst hu; rfl) (by unfold maxLen; omega) (by omega) (Nat.zero_le _) ?_
          intro v5 w5 XI5 g5 at5
          obtain ⟨An, an, hv⟩ := own_shape XI5
          subst hv
          have kk : Keeps (fun b => (Value.slice s.A ps.length s.a).ownBlock = some b) w4 w5 := keeps_grown (Keeps.refl _ _) g5 (fun g h => .inl h)
          have XG5 := own_kept XG4 kk (fun g _ _ hg hs => types_ne (Has.of_own XI4) (Has.of_own XG4) (by decide) hs hg)
          have NG5 := NG4.kept kk (fun g _ _ hg hs => types_ne (Has.of_own XI4) NG4 (by decide) hs hg)
          have XV5 := own_kept XV4 kk (fun g _ _ hg hs => types_ne (Has.of_own XI4) (Has.of_own XV4) (by decide) hs hg)
          have NV5 := NV4.kept kk (fun g _ _ hg hs => types_ne (Has.of_own XI4) NV4 (by decide) hs hg)
          have KC5 : Keeps (Rows s) w w5 := keeps_grown KC4 g5 (fun g h => .inl (.inl ((ob_eq s.A ps.length s.a).symm.trans h)))
          have zI : ob An = ob s.A ∨ ∃ b, ob An = some b ∧ w.heap.size ≤ b := at5.imp (fun h => (ob_eq _ _ _).symm.trans (h.trans (ob_eq _ _ _))) (fun h => ⟨_, (ob_eq _ _ _).symm.trans h, KC4.size⟩)
          clear g5 at5 kk
          refine hK.out _ _ (fun _ => HS _ KC5) ?_
          clear hK K
          try simp only [Act.put, List.setIfInBounds_toArray, List.set_cons_zero, List.set_cons_succ]
          refine wpU_ready (rs := [14]) (by kernel_rfl) (by simp) ?_
          refine (AllReadyU.cons (o := ⟨some 90, _, _, _, _, _⟩) rfl (fun K hK => ?_) AllReadyU.nil)
          · skip
            refine step_append_has rfl (.tmp 88) (.tmp 89) 56 rfl iL _ 8 Try.underlying56 hL0 hL1 hL2 hL3 rfl (by omega) (by simp [Act.eval, Act.put]) XG5 (some ⟨w3.heap.size, 0, none⟩) 1 1 [.int .i64 1] (by simp [Act.eval, Act.put]) NG5 (by intro u hu; simp at hu; subst hu; rfl) (by unfold maxLen; omega) (by omega) (Nat.zero_le _) ?_
            intro v6 w6 XG6 g6 at6
            obtain ⟨Gn, gn, hv⟩ := own_shape XG6
            subst hv
            have kk : Keeps (fun b => (Value.slice s.G ps.length s.g).ownBlock = some b) w5 w6 := keeps_grown (Keeps.refl _ _) g6 (fun g h => .inl h)
            have XI6 := own_kept XI5 kk (fun g _ _ hg hs => types_ne (Has.of_own XG5) (Has.of_own XI5) (by decide) hs hg)
            have XV6 := own_kept XV5 kk (fun g _ _ hg hs => types_ne (Has.of_own XG5) (Has.of_own XV5) (by decide) hs hg)
            have NV6 := NV5.kept kk (fun g _ _ hg hs => types_ne (Has.of_own XG5) NV5 (by decide) hs hg)
            have KC6 : Keeps (Rows s) w w6 := keeps_grown KC5 g6 (fun g h => .inl (.inr (.inl ((ob_eq s.G ps.length s.g).symm.trans h))))
            have zG : ob Gn = ob s.G ∨ ∃ b, ob Gn = some b ∧ w.heap.size ≤ b := at6.imp (fun h => (ob_eq _ _ _).symm.trans (h.trans (ob_eq _ _ _))) (fun h => ⟨_, (ob_eq _ _ _).symm.trans h, KC5.size⟩)
            clear g6 at6 kk
            refine hK.out _ _ (fun _ => HS _ KC6) ?_
            clear hK K
            try simp only [Act.put, List.setIfInBounds_toArray, List.set_cons_zero, List.set_cons_succ]
            refine wpU_ready (rs := [21]) (by kernel_rfl) (by simp) ?_
            refine (AllReadyU.cons (o := ⟨some 97, _, _, _, _, _⟩) rfl (fun K hK => ?_) AllReadyU.nil)
            · skip
              refine step_append_has rfl (.tmp 94) (.tmp 96) 57 rfl iS _ 16 Try.underlying57 hS0 hS1 hS2 hS3 rfl (by omega) (by simp [Act.eval, Act.put]) XV6 (some ⟨w1.heap.size, 0, none⟩) 1 1 [.string v] (by simp [Act.eval, Act.put]) NV6 (by intro u hu; simp at hu; subst hu; rfl) (by unfold maxLen; omega) (by omega) (Nat.zero_le _) ?_
              intro v7 w7 XV7 g7 at7
              obtain ⟨Vn, vn, hv⟩ := own_shape XV7
              subst hv
              have kk : Keeps (fun b => (Value.slice s.V ps.length s.v).ownBlock = some b) w6 w7 := keeps_grown (Keeps.refl _ _) g7 (fun g h => .inl h)
              have XI7 := own_kept XI6 kk (fun g _ _ hg hs => types_ne (Has.of_own XV6) (Has.of_own XI6) (by decide) hs hg)
              have XG7 := own_kept XG6 kk (fun g _ _ hg hs => types_ne (Has.of_own XV6) (Has.of_own XG6) (by decide) hs hg)
              have KC7 : Keeps (Rows s) w w7 := keeps_grown KC6 g7 (fun g h => .inl (.inr (.inr ((ob_eq s.V ps.length s.v).symm.trans h))))
              have zV : ob Vn = ob s.V ∨ ∃ b, ob Vn = some b ∧ w.heap.size ≤ b := at7.imp (fun h => (ob_eq _ _ _).symm.trans (h.trans (ob_eq _ _ _))) (fun h => ⟨_, (ob_eq _ _ _).symm.trans h, KC6.size⟩)
              clear g7 at7 kk
              refine hK.out _ _ (fun _ => HS _ KC7) ?_
              clear hK K
              try simp only [Act.put, List.setIfInBounds_toArray, List.set_cons_zero, List.set_cons_succ]
              refine wpU_take (i := 22) (oi := ⟨some 98, _, _, _, _, _⟩) (v := ?_) rfl (by kernel_rfl) (by kernel_rfl) (by kernel_rfl) (fun _ _ _ h => h) (by decide) (fun _ => HS _ KC7) (Or.inl ⟨by kernel_rfl, ?_⟩) ?_
              rotate_left
              · intro w hSw; go_simp; try with_reducible rfl
              rotate_left
              try simp only [Act.put, List.setIfInBounds_toArray, List.set_cons_zero, List.set_cons_succ]
              refine wpU_take (i := 23) (oi := ⟨some 99, _, _, _, _, _⟩) (v := ?_) rfl (by kernel_rfl) (by kernel_rfl) (by kernel_rfl) (fun _ _ _ h => h) (by decide) (fun _ => HS _ KC7) (Or.inl ⟨by kernel_rfl, ?_⟩) ?_
              rotate_left
              · intro w hSw; go_simp; try with_reducible rfl
              rotate_left
              try simp only [Act.put, List.setIfInBounds_toArray, List.set_cons_zero, List.set_cons_succ]
              have BC0 := h.Bl.kept KC7 HP
              have bc0 := BC0.cellAt (i := 1) rfl
              have fc0 := BC0.frozen
              refine wpU_ready (rs := [24]) (by kernel_rfl) (by simp) ?_
              refine AllReadyU.cons (o := ⟨none, _, _, _, _, _⟩) rfl (fun K hK => ?_) AllReadyU.nil
              go_simp
              refine hK.out _ _ (fun h => absurd h (by decide)) ?_
              clear hK K
              try simp only [Act.put, List.setIfInBounds_toArray, List.set_cons_zero, List.set_cons_succ]
              have BC1 := BC0.set_ 1 (.slice An (ps.length + 1) an)
              refine wpU_take (i := 25) (oi := ⟨some 100, _, _, _, _, _⟩) (v := ?_) rfl (by kernel_rfl) (by kernel_rfl) (by kernel_rfl) (fun _ _ _ h => h) (by decide) (fun h => absurd h (by decide)) (Or.inl ⟨by kernel_rfl, ?_⟩) ?_
              rotate_left
              · intro w hSw; go_simp; try with_reducible rfl
              rotate_left
              try simp only [Act.put, List.setIfInBounds_toArray, List.set_cons_zero, List.set_cons_succ]
              refine wpU_take (i := 26) (oi := ⟨some 101, _, _, _, _, _⟩) (v := ?_) rfl (by kernel_rfl) (by kernel_rfl) (by kernel_rfl) (fun _ _ _ h => h) (by decide) (fun h => absurd h (by decide)) (Or.inl ⟨by kernel_rfl, ?_⟩) ?_
              rotate_left
              · intro w hSw; go_simp; try with_reducible rfl
              rotate_left
              try simp only [Act.put, List.setIfInBounds_toArray, List.set_cons_zero, List.set_cons_succ]
              have bc1 := BC1.cellAt (i := 2) rfl
              have fc1 := BC1.frozen
              refine wpU_ready (rs := [27]) (by kernel_rfl) (by simp) ?_
              refine AllReadyU.cons (o := ⟨none, _, _, _, _, _⟩) rfl (fun K hK => ?_) AllReadyU.nil
              go_simp
              refine hK.out _ _ (fun h => absurd h (by decide)) ?_
              clear hK K
              try simp only [Act.put, List.setIfInBounds_toArray, List.set_cons_zero, List.set_cons_succ]
              have BC2 := BC1.set_ 2 (.slice Gn (ps.length + 1) gn)
              refine wpU_take (i := 28) (oi := ⟨some 102, _, _, _, _, _⟩) (v := ?_) rfl (by kernel_rfl) (by kernel_rfl) (by kernel_rfl) (fun _ _ _ h => h) (by decide) (fun h => absurd h (by decide)) (Or.inl ⟨by kernel_rfl, ?_⟩) ?_
              rotate_left
              · intro w hSw; go_simp; try with_reducible rfl
              rotate_left
              try simp only [Act.put, List.setIfInBounds_toArray, List.set_cons_zero, List.set_cons_succ]
              refine wpU_take (i := 29) (oi := ⟨some 103, _, _, _, _, _⟩) (v := ?_) rfl (by kernel_rfl) (by kernel_rfl) (by kernel_rfl) (fun _ _ _ h => h) (by decide) (fun h => absurd h (by decide)) (Or.inl ⟨by kernel_rfl, ?_⟩) ?_
              rotate_left
              · intro w hSw; go_simp; try with_reducible rfl
              rotate_left
              try simp only [Act.put, List.setIfInBounds_toArray, List.set_cons_zero, List.set_cons_succ]
              have bc2 := BC2.cellAt (i := 3) rfl
              have fc2 := BC2.frozen
              refine wpU_ready (rs := [30]) (by kernel_rfl) (by simp) ?_
              refine AllReadyU.cons (o := ⟨none, _, _, _, _, _⟩) rfl (fun K hK => ?_) AllReadyU.nil
              go_simp
              refine hK.out _ _ (fun h => absurd h (by decide)) ?_
              clear hK K
              try simp only [Act.put, List.setIfInBounds_toArray, List.set_cons_zero, List.set_cons_succ]
              have BC3 := BC2.set_ 3 (.slice Vn (ps.length + 1) vn)
              refine wpU_done (by kernel_rfl) ?_ _
              have d3 := BC3.cellAt (i := 3) rfl
              go_wp2_with fail
              exact bodyPost_ret (v := .tuple #[.int .i64 (ps.length : Int), .int .i64 1, .int .i64 0]) (by simp [results, Try.results37, go_sem, hw]) rfl ⟨rfl, ⟨⟨An, an, Gn, gn, Vn, vn, s.B, s.b⟩, h.grown KC7 XI7 XG7 XV7, foot_grown zI zG zV⟩, keeps_rows KC7 _ _ _⟩
    · skip
      go_simp
      have kA := (Keeps.refl (fun _ => False) w2).alloc (.cells #[.int .i64 1] 2)
      have XI3 := own_kept XI2 kA (fun _ _ _ _ h => h)
      have XG3 := own_kept XG2 kA (fun _ _ _ _ h => h)
      have XV3 := own_kept XV2 kA (fun _ _ _ _ h => h)
      have NV3 := NV2.kept kA (fun _ _ _ _ h => h)
      have NG3 := Has.box w2 2 1 1 [.int .i64 1] rfl (by unfold maxLen; omega)
      have KC3 := KC2.alloc (.cells #[.int .i64 1] 2)
      dsimp only [List.toArray] at NG3
      generalize w2.alloc (.cells #[.int .i64 1] 2) = w3 at *
      refine hK.out _ _ (fun _ => HS _ KC3) ?_
      clear hK K
      try simp only [Act.put, List.setIfInBounds_toArray, List.set_cons_zero, List.set_cons_succ]
      refine wpU_ready (rs := [7]) (by kernel_rfl) (by simp) ?_
      refine (AllReadyU.cons (o := ⟨some 83, _, _, _, _, _⟩) rfl (fun K hK => ?_) AllReadyU.nil)
      · skip
        go_simp
        have kA := (Keeps.refl (fun _ => False) w3).alloc (.cells #[.bool true] 4)
        have XI4 := own_kept XI3 kA (fun _ _ _ _ h => h)
        have XG4 := own_kept XG3 kA (fun _ _ _ _ h => h)
        have XV4 := own_kept XV3 kA (fun _ _ _ _ h => h)
        have NG4 := NG3.kept kA (fun _ _ _ _ h => h)
        have NV4 := NV3.kept kA (fun _ _ _ _ h => h)
        have NI4 := Has.box w3 4 1 1 [.bool true] rfl (by unfold maxLen; omega)
        have KC4 := KC3.alloc (.cells #[.bool true] 4)
        dsimp only [List.toArray] at NI4
        generalize w3.alloc (.cells #[.bool true] 4) = w4 at *
        refine hK.out _ _ (fun _ => HS _ KC4) ?_
        clear hK K
        try simp only [Act.put, List.setIfInBounds_toArray, List.set_cons_zero, List.set_cons_succ]
        refine wpU_ready (rs := [8]) (by kernel_rfl) (by simp) ?_
        refine (AllReadyU.cons (o := ⟨some 84, _, _, _, _, _⟩) rfl (fun K hK => ?_) AllReadyU.nil)
        · skip
          refine step_append_has rfl (.tmp 82) (.tmp 83) 32 rfl iB _ 1 Try.underlying32 hB0 hB1 hB2 hB3 rfl (by omega) (by simp [Act.eval, Act.put]) XI4 (some ⟨w3.heap.size, 0, none⟩) 1 1 [.bool true] (by simp [Act.eval, Act.put]) NI4 (by intro u hu; simp at hu; subst hu; rfl) (by unfold maxLen; omega) (by omega) (Nat.zero_le _) ?_
          intro v5 w5 XI5 g5 at5
          obtain ⟨An, an, hv⟩ := own_shape XI5
          subst hv
          have kk : Keeps (fun b => (Value.slice s.A ps.length s.a).ownBlock = some b) w4 w5 := keeps_grown (Keeps.refl _ _) g5 (fun g h => .inl h)
          have XG5 := own_kept XG4 kk (fun g _ _ hg hs => types_ne (Has.of_own XI4) (Has.of_own XG4) (by decide) hs hg)
          have NG5 := NG4.kept kk (fun g _ _ hg hs => types_ne (Has.of_own XI4) NG4 (by decide) hs hg)
          have XV5 := own_kept XV4 kk (fun g _ _ hg hs => types_ne (Has.of_own XI4) (Has.of_own XV4) (by decide) hs hg)
          have NV5 := NV4.kept kk (fun g _ _ hg hs => types_ne (Has.of_own XI4) NV4 (by decide) hs hg)
          have KC5 : Keeps (Rows s) w w5 := keeps_grown KC4 g5 (fun g h => .inl (.inl ((ob_eq s.A ps.length s.a).symm.trans h)))
          have zI : ob An = ob s.A ∨ ∃ b, ob An = some b ∧ w.heap.size ≤ b := at5.imp (fun h => (ob_eq _ _ _).symm.trans (h.trans (ob_eq _ _ _))) (fun h => ⟨_, (ob_eq _ _ _).symm.trans h, KC4.size⟩)
          clear g5 at5 kk
          refine hK.out _ _ (fun _ => HS _ KC5) ?_
          clear hK K
          try simp only [Act.put, List.setIfInBounds_toArray, List.set_cons_zero, List.set_cons_succ]
          refine wpU_ready (rs := [14]) (by kernel_rfl) (by simp) ?_
          refine (AllReadyU.cons (o := ⟨some 90, _, _, _, _, _⟩) rfl (fun K hK => ?_) AllReadyU.nil)
          · skip
            refine step_append_has rfl (.tmp 88) (.tmp 89) 56 rfl iL _ 8 Try.underlying56 hL0 hL1 hL2 hL3 rfl (by omega) (by simp [Act.eval, Act.put]) XG5 (some ⟨w2.heap.size, 0, none⟩) 1 1 [.int .i64 1] (by simp [Act.eval, Act.put]) NG5 (by intro u hu; simp at hu; subst hu; rfl) (by unfold maxLen; omega) (by omega) (Nat.zero_le _) ?_
            intro v6 w6 XG6 g6 at6
            obtain ⟨Gn, gn, hv⟩ := own_shape XG6
            subst hv
            have kk : Keeps (fun b => (Value.slice s.G ps.length s.g).ownBlock = some b) w5 w6 := keeps_grown (Keeps.refl _ _) g6 (fun g h => .inl h)
            have XI6 := own_kept XI5 kk (fun g _ _ hg hs => types_ne (Has.of_own XG5) (Has.of_own XI5) (by decide) hs hg)
            have XV6 := own_kept XV5 kk (fun g _ _ hg hs => types_ne (Has.of_own XG5) (Has.of_own XV5) (by decide) hs hg)
            have NV6 := NV5.kept kk (fun g _ _ hg hs => types_ne (Has.of_own XG5) NV5 (by decide) hs hg)
            have KC6 : Keeps (Rows s) w w6 := keeps_grown KC5 g6 (fun g h => .inl (.inr (.inl ((ob_eq s.G ps.length s.g).symm.trans h))))
            have zG : ob Gn = ob s.G ∨ ∃ b, ob Gn = some b ∧ w.heap.size ≤ b := at6.imp (fun h => (ob_eq _ _ _).symm.trans (h.trans (ob_eq _ _ _))) (fun h => ⟨_, (ob_eq _ _ _).symm.trans h, KC5.size⟩)
            clear g6 at6 kk
            refine hK.out _ _ (fun _ => HS _ KC6) ?_
            clear hK K
            try simp only [Act.put, List.setIfInBounds_toArray, List.set_cons_zero, List.set_cons_succ]
            refine wpU_ready (rs := [21]) (by kernel_rfl) (by simp) ?_
            refine (AllReadyU.cons (o := ⟨some 97, _, _, _, _, _⟩) rfl (fun K hK => ?_) AllReadyU.nil)
            · skip
              refine step_append_has rfl (.tmp 94) (.tmp 96) 57 rfl iS _ 16 Try.underlying57 hS0 hS1 hS2 hS3 rfl (by omega) (by simp [Act.eval, Act.put]) XV6 (some ⟨w1.heap.size, 0, none⟩) 1 1 [.string v] (by simp [Act.eval, Act.put]) NV6 (by intro u hu; simp at hu; subst hu; rfl) (by unfold maxLen; omega) (by omega) (Nat.zero_le _) ?_
              intro v7 w7 XV7 g7 at7
              obtain ⟨Vn, vn, hv⟩ := own_shape XV7
              subst hv
              have kk : Keeps (fun b => (Value.slice s.V ps.length s.v).ownBlock = some b) w6 w7 := keeps_grown (Keeps.refl _ _) g7 (fun g h => .inl h)
              have XI7 := own_kept XI6 kk (fun g _ _ hg hs => types_ne (Has.of_own XV6) (Has.of_own XI6) (by decide) hs hg)
              have XG7 := own_kept XG6 kk (fun g _ _ hg hs => types_ne (Has.of_own XV6) (Has.of_own XG6) (by decide) hs hg)
              have KC7 : Keeps (Rows s) w w7 := keeps_grown KC6 g7 (fun g h => .inl (.inr (.inr ((ob_eq s.V ps.length s.v).symm.trans h))))
              have zV : ob Vn = ob s.V ∨ ∃ b, ob Vn = some b ∧ w.heap.size ≤ b := at7.imp (fun h => (ob_eq _ _ _).symm.trans (h.trans (ob_eq _ _ _))) (fun h => ⟨_, (ob_eq _ _ _).symm.trans h, KC6.size⟩)
              clear g7 at7 kk
              refine hK.out _ _ (fun _ => HS _ KC7) ?_
              clear hK K
              try simp only [Act.put, List.setIfInBounds_toArray, List.set_cons_zero, List.set_cons_succ]
              refine wpU_take (i := 22) (oi := ⟨some 98, _, _, _, _, _⟩) (v := ?_) rfl (by kernel_rfl) (by kernel_rfl) (by kernel_rfl) (fun _ _ _ h => h) (by decide) (fun _ => HS _ KC7) (Or.inl ⟨by kernel_rfl, ?_⟩) ?_
              rotate_left
              · intro w hSw; go_simp; try with_reducible rfl
              rotate_left
              try simp only [Act.put, List.setIfInBounds_toArray, List.set_cons_zero, List.set_cons_succ]
              refine wpU_take (i := 23) (oi := ⟨some 99, _, _, _, _, _⟩) (v := ?_) rfl (by kernel_rfl) (by kernel_rfl) (by kernel_rfl) (fun _ _ _ h => h) (by decide) (fun _ => HS _ KC7) (Or.inl ⟨by kernel_rfl, ?_⟩) ?_
              rotate_left
              · intro w hSw; go_simp; try with_reducible rfl
              rotate_left
              try simp only [Act.put, List.setIfInBounds_toArray, List.set_cons_zero, List.set_cons_succ]
              have BC0 := h.Bl.kept KC7 HP
              have bc0 := BC0.cellAt (i := 1) rfl
              have fc0 := BC0.frozen
              refine wpU_ready (rs := [24]) (by kernel_rfl) (by simp) ?_
              refine AllReadyU.cons (o := ⟨none, _, _, _, _, _⟩) rfl (fun K hK => ?_) AllReadyU.nil
              go_simp
              refine hK.out _ _ (fun h => absurd h (by decide)) ?_
              clear hK K
              try simp only [Act.put, List.setIfInBounds_toArray, List.set_cons_zero, List.set_cons_succ]
              have BC1 := BC0.set_ 1 (.slice An (ps.length + 1) an)
              refine wpU_take (i := 25) (oi := ⟨some 100, _, _, _, _, _⟩) (v := ?_) rfl (by kernel_rfl) (by kernel_rfl) (by kernel_rfl) (fun _ _ _ h => h) (by decide) (fun h => absurd h (by decide)) (Or.inl ⟨by kernel_rfl, ?_⟩) ?_
              rotate_left
              · intro w hSw; go_simp; try with_reducible rfl
              rotate_left
              try simp only [Act.put, List.setIfInBounds_toArray, List.set_cons_zero, List.set_cons_succ]
              refine wpU_take (i := 26) (oi := ⟨some 101, _, _, _, _, _⟩) (v := ?_) rfl (by kernel_rfl) (by kernel_rfl) (by kernel_rfl) (fun _ _ _ h => h) (by decide) (fun h => absurd h (by decide)) (Or.inl ⟨by kernel_rfl, ?_⟩) ?_
              rotate_left
              · intro w hSw; go_simp; try with_reducible rfl
              rotate_left
              try simp only [Act.put, List.setIfInBounds_toArray, List.set_cons_zero, List.set_cons_succ]
              have bc1 := BC1.cellAt (i := 2) rfl
              have fc1 := BC1.frozen
              refine wpU_ready (rs := [27]) (by kernel_rfl) (by simp) ?_
              refine AllReadyU.cons (o := ⟨none, _, _, _, _, _⟩) rfl (fun K hK => ?_) AllReadyU.nil
              go_simp
              refine hK.out _ _ (fun h => absurd h (by decide)) ?_
              clear hK K
              try simp only [Act.put, List.setIfInBounds_toArray, List.set_cons_zero, List.set_cons_succ]
              have BC2 := BC1.set_ 2 (.slice Gn (ps.length + 1) gn)
              refine wpU_take (i := 28) (oi := ⟨some 102, _, _, _, _, _⟩) (v := ?_) rfl (by kernel_rfl) (by kernel_rfl) (by kernel_rfl) (fun _ _ _ h => h) (by decide) (fun h => absurd h (by decide)) (Or.inl ⟨by kernel_rfl, ?_⟩) ?_
              rotate_left
              · intro w hSw; go_simp; try with_reducible rfl
              rotate_left
              try simp only [Act.put, List.setIfInBounds_toArray, List.set_cons_zero, List.set_cons_succ]
              refine wpU_take (i := 29) (oi := ⟨some 103, _, _, _, _, _⟩) (v := ?_) rfl (by kernel_rfl) (by kernel_rfl) (by kernel_rfl) (fun _ _ _ h => h) (by decide) (fun h => absurd h (by decide)) (Or.inl ⟨by kernel_rfl, ?_⟩) ?_
              rotate_left
              · intro w hSw; go_simp; try with_reducible rfl
              rotate_left
              try simp only [Act.put, List.setIfInBounds_toArray, List.set_cons_zero, List.set_cons_succ]
              have bc2 := BC2.cellAt (i := 3) rfl
              have fc2 := BC2.frozen
              refine wpU_ready (rs := [30]) (by kernel_rfl) (by simp) ?_
              refine AllReadyU.cons (o := ⟨none, _, _, _, _, _⟩) rfl (fun K hK => ?_) AllReadyU.nil
              go_simp
              refine hK.out _ _ (fun h => absurd h (by decide)) ?_
              clear hK K
              try simp only [Act.put, List.setIfInBounds_toArray, List.set_cons_zero, List.set_cons_succ]
              have BC3 := BC2.set_ 3 (.slice Vn (ps.length + 1) vn)
              refine wpU_done (by kernel_rfl) ?_ _
              have d3 := BC3.cellAt (i := 3) rfl
              go_wp2_with fail
              exact bodyPost_ret (v := .tuple #[.int .i64 (ps.length : Int), .int .i64 1, .int .i64 0]) (by simp [results, Try.results37, go_sem, hw]) rfl ⟨rfl, ⟨⟨An, an, Gn, gn, Vn, vn, s.B, s.b⟩, h.grown KC7 XI7 XG7 XV7, foot_grown zI zG zV⟩, keeps_rows KC7 _ _ _⟩
end RefAr
end Go.Proofs.Ytpfhogbkbodfjab
