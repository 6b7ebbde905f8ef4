/- What each function of package arena does to one Arena, at the kind string; conditions: at most 1000 places. -/
import Derived.Test.YtpfhogbkbodfjabArPlain
import Derived.Deep.RegionLaw
import Derived.IntWalk
namespace Go.Proofs.Ytpfhogbkbodfjab
open Go.RowKit
set_option linter.unusedVariables false
set_option linter.unusedSimpArgs false
namespace ArS
open Ar
abbrev El := ByteArray
def cf (x : APlace El) : List Value := [.string x.v, .int .i64 x.g, .bool x.on]
theorem cf_len (x : APlace El) : (cf x).length = 3 := rfl
theorem infoP : (Try.prog.info? 126).map (fun i => (i.zero, i.size, i.bytes)) = some (some (.agg #[.string ⟨#[]⟩, .int .i64 0, .bool false]), 3, 32) := by kernel_rfl
theorem infoI : (Try.prog.info? 3).map (fun i => (i.zero, i.size, i.bytes)) = some (some (.int .i64 0), 1, 8) := by kernel_rfl
theorem cells_one (xs : List (APlace El)) : ∀ u ∈ xs.flatMap cf, u.oneCell' = true := by
  intro u hu
  obtain ⟨f, _, hf⟩ := List.mem_flatMap.1 hu
  simp [cf] at hf
  rcases hf with rfl | rfl | rfl <;> rfl
def nums (fr : List Nat) : List Value := fr.map fun (i : Nat) => Value.int .i64 (i : Int)
/-- The Arena at block p: its places the slice A, the free ones the slice B. -/
structure At (w : World) (p : Nat) (A : Option Addr) (c : Nat) (B : Option Addr) (d room : Nat) (ps : List (APlace El)) (fr : List Nat) : Prop where
  Bl : Blk w p 124 [.int .i64 (room : Int), .slice A ps.length c, .slice B fr.length d]
  P : w.ownsRow 0 126 3 (.slice A ps.length c) ps.length (ps.flatMap cf)
  F : w.ownsRow 0 3 1 (.slice B fr.length d) fr.length (nums fr)
def Foot (p : Nat) (A B : Option Addr) (b : Nat) : Prop := b = p ∨ (Value.slice A 0 0).ownBlock = some b ∨ (Value.slice B 0 0).ownBlock = some b
theorem own_same (A : Option Addr) (n c n' c' : Nat) : (Value.slice A n c).ownBlock = (Value.slice A n' c').ownBlock := by cases A <;> rfl
section
variable {w w' : World} {p c d room : Nat} {A B : Option Addr} {ps : List (APlace El)} {fr : List Nat} {S : Nat → Prop}
theorem At.kept (h : At w p A c B d room ps fr) (k : Keeps S w w') (hS : ∀ b, Foot p A B b → ¬ S b) : At w' p A c B d room ps fr :=
  ⟨h.Bl.kept k (hS p (.inl rfl)), own_kept h.P k (fun g _ _ hg => hS g (.inr (.inl ((own_same A _ _ _ _).trans hg)))), own_kept h.F k (fun g _ _ hg => hS g (.inr (.inr ((own_same B _ _ _ _).trans hg))))⟩
theorem At.stay (h : At w p A c B d room ps fr) (k : Keeps (fun _ => False) w w') : At w' p A c B d room ps fr := h.kept k fun _ _ h => h
theorem At.lt (h : At w p A c B d room ps fr) : ∀ b, Foot p A B b → b < w.heap.size := by
  rintro b (rfl | hb | hb)
  · exact h.Bl.lt
  · exact (h.P.lt b ((own_same A _ _ _ _).trans hb)).2
  · exact (h.F.lt b ((own_same B _ _ _ _).trans hb)).2
theorem At.place (h : At w p A c B d room ps fr) {i : Nat} {x : APlace El} (hx : ps[i]? = some x) :
    ∃ g, A = some ⟨g, 0, none⟩ ∧ g ≠ p ∧ w.cell? ⟨g, i * 3, Option.none⟩ = some (.string x.v) ∧ w.cell? ⟨g, i * 3 + 1, Option.none⟩ = some (.int .i64 x.g) ∧ w.cell? ⟨g, i * 3 + 2, Option.none⟩ = some (.bool x.on) := by
  have hi := (List.getElem?_eq_some_iff.1 hx).1
  have hp := own_type_ne h.P h.Bl (by decide)
  rcases h.P.2 with ⟨_, h0⟩ | ⟨g, cap, cur, hv, _⟩
  · omega
  · injection hv with hA _ hc
    subst hA hc
    have e : ∀ j v, (cf x)[j]? = some v → w.cell? ⟨g, i * 3 + j, Option.none⟩ = some v := fun j v hv => by
      have hj : j < 3 := (List.getElem?_eq_some_iff.1 hv).1
      rw [h.P.cellAt _ (by omega)]
      exact flat_at cf_len hx hv
    exact ⟨g, rfl, fun e => hp (congrArg some e), e 0 _ rfl, e 1 _ rfl, e 2 _ rfl⟩
theorem At.free (h : At w p A c B d room ps fr) {i k : Nat} (hx : fr[i]? = some k) : ∃ g, B = some ⟨g, 0, none⟩ ∧ g ≠ p ∧ w.cell? ⟨g, i, Option.none⟩ = some (.int .i64 (k : Int)) := by
  have hi := (List.getElem?_eq_some_iff.1 hx).1
  have hp := own_type_ne h.F h.Bl (by decide)
  rcases h.F.2 with ⟨_, h0⟩ | ⟨g, cap, cur, hv, _⟩
  · omega
  · injection hv with hA _ hc
    subst hA hc
    refine ⟨g, rfl, fun e => hp (congrArg some e), ?_⟩
    rw [h.F.cellAt _ (by omega), nums, List.getElem?_map, hx]; rfl
end
section
variable {w : World} {p c d room ga gb i R : Nat} {A B : Option Addr} {ps : List (APlace El)} {fr : List Nat}
theorem At.ab (h : At w p (some ⟨ga, 0, none⟩) c (some ⟨gb, 0, Option.none⟩) d room ps fr) : ga ≠ gb := by
  rintro rfl
  rcases h.P.2 with ⟨h0, _⟩ | ⟨_, _, _, hv, _, hh, _⟩
  · cases h0
  · injection hv with hv
    cases hv
    rcases h.F.2 with ⟨h0, _⟩ | ⟨_, _, _, hv, _, hh', _⟩
    · cases h0
    · injection hv with hv
      cases hv
      rw [hh] at hh'
      injection hh' with hh'
      injection hh' with _ ht
      exact absurd ht (by decide)
theorem own_other {w : World} {g R n c : Nat} {cs rs : List Value} (h : w.ownsRow 0 126 3 (.slice (some ⟨g, 0, none⟩) n c) n cs) (hR : Blk w R 42 rs) (hne : 126 ≠ 42) : g ≠ R :=
  fun e => own_type_ne h hR hne (congrArg some e)
theorem own_new {w : World} {g n c : Nat} {xs : List (APlace El)} {x : APlace El} (h : w.ownsRow 0 126 3 (.slice (some ⟨g, 0, none⟩) (n + 1) c) (n + 1) (xs.flatMap cf ++ cf x)) {j : Nat} {v : Value} (hv : (cf x)[j]? = some v) : w.cell? ⟨g, n * 3 + j, none⟩ = some v := by
  have hj : j < 3 := (List.getElem?_eq_some_iff.1 hv).1
  have hl := h.1
  rw [List.length_append, flat_length cf_len, cf_len] at hl
  have hn : xs.length = n := by omega
  rw [h.cellAt _ (by omega), List.getElem?_append_right (by rw [flat_length cf_len]; omega), flat_length cf_len, hn, Nat.add_sub_cancel_left]
  exact hv
/-- The place i, written whole. -/
theorem At.turn (h : At w p (some ⟨ga, 0, none⟩) c B d room ps fr) {x : APlace El} (hx : ps[i]? = some x) (v : El) (g : Int) (on : Bool) :
    At (((w.setCell ⟨ga, i * 3, none⟩ (.string v)).setCell ⟨ga, i * 3 + 2, none⟩ (.bool on)).setCell ⟨ga, i * 3 + 1, none⟩ (.int .i64 g)) p (some ⟨ga, 0, Option.none⟩) c B d room (ps.set i ⟨v, g, on⟩) fr := by
  have hi := (List.getElem?_eq_some_iff.1 hx).1
  have hp : p ≠ ga := fun e => own_type_ne h.P h.Bl (by decide) (congrArg some e.symm)
  have hb : ∀ k, (Value.slice B fr.length d).ownBlock = some k → k ≠ ga := by
    rintro k hk rfl
    rcases h.F.2 with ⟨h0, _⟩ | ⟨g', _, _, hv, _⟩
    · rw [h0] at hk; cases hk
    · injection hv with hv
      subst hv
      cases hk
      exact h.ab rfl
  have k : Keeps (· = ga) w (((w.setCell ⟨ga, i * 3, none⟩ (.string v)).setCell ⟨ga, i * 3 + 2, none⟩ (.bool on)).setCell ⟨ga, i * 3 + 1, none⟩ (.int .i64 g)) := (((keep1 ga w).setCell _ (.inl rfl) _).setCell _ (.inl rfl) _).setCell _ (.inl rfl) _
  refine ⟨by rw [List.length_set]; exact h.Bl.kept k hp, ?_, own_kept h.F k (fun g _ _ hg e => hb g hg e)⟩
  rw [List.length_set]
  have o1 := own_put (j := 0) (x' := ⟨v, x.g, x.on⟩) (u := .string v) cf_len (by omega) h.P hx (by omega) rfl
  have o2 := own_put (j := 2) (i := i) (x := ⟨v, x.g, x.on⟩) (x' := ⟨v, x.g, on⟩) (u := .bool on) cf_len (by omega) o1 (List.getElem?_set_self hi) (by omega) rfl
  rw [List.set_set] at o2
  have o3 := own_put (j := 1) (i := i) (x := ⟨v, x.g, on⟩) (x' := ⟨v, g, on⟩) (u := .int .i64 g) cf_len (by omega) o2 (List.getElem?_set_self hi) (by omega) rfl
  rw [List.set_set] at o3
  exact o3
/-- Behind an append of an empty place, and the store of the longer slice. -/
theorem At.grow {w' : World} {A' : Option Addr} {c' : Nat} {row : Option Nat} (h : At w p A c B d room ps []) (own : w'.ownsRow 0 126 3 (.slice A' (ps.length + 1) c') (ps.length + 1) (ps.flatMap cf ++ cf ⟨⟨#[]⟩, 0, false⟩))
    (hg : (w.alloc (.cells #[.string ⟨#[]⟩, .int .i64 0, .bool false] 126)).grownBy w' row) (hp : row ≠ some p) (hF : ∀ k, (Value.slice B 0 d).ownBlock = some k → row ≠ some k) :
    At (w'.setCell ⟨p, 1, none⟩ (.slice A' (ps.length + 1) c')) p A' c' B d room (ps ++ [⟨⟨#[]⟩, 0, false⟩]) [] := by
  have hl : (ps ++ [(⟨⟨#[]⟩, 0, false⟩ : APlace El)]).length = ps.length + 1 := by simp
  have hfm : (ps ++ [(⟨⟨#[]⟩, 0, false⟩ : APlace El)]).flatMap cf = ps.flatMap cf ++ cf ⟨⟨#[]⟩, 0, false⟩ := by simp
  have B5 := (h.Bl.alloc (.cells #[.string ⟨#[]⟩, .int .i64 0, .bool false] 126)).grown hg hp
  have hgp := own_type_ne own B5 (by decide)
  have k := (keep1 p w').setCell ⟨p, 1, none⟩ (.inl rfl) (.slice A' (ps.length + 1) c')
  refine ⟨by rw [hl]; exact B5.set_ 1 _, by rw [hl, hfm]; exact own_kept own k (fun g _ _ hg e => hgp (hg.trans (congrArg some e))), ?_⟩
  have hFp : ∀ g, (Value.slice B 0 d).ownBlock = some g → g ≠ p := fun g hg e => own_type_ne h.F h.Bl (by decide) (by rw [← e]; exact hg)
  exact own_kept (own_kept (own_kept h.F ((Keeps.refl (fun _ => False) w).alloc _) (fun _ _ _ _ h => h)) (S := fun g => row = some g) (keeps_grown (Keeps.refl _ _) hg (fun g hg => .inl hg)) (fun g _ _ hg => hF g hg)) k (fun g _ _ hg e => hFp g hg e)
/-- The last free one, taken. -/
theorem At.take (h : At w p A c (some ⟨gb, 0, none⟩) d room ps (fr ++ [i])) : At (w.setCell ⟨p, 2, none⟩ (.slice (some ⟨gb, 0, none⟩) fr.length d)) p A c (some ⟨gb, 0, Option.none⟩) d room ps fr := by
  have hA := own_type_ne h.P h.Bl (by decide)
  have hB := own_type_ne h.F h.Bl (by decide)
  have k := (keep1 p w).setCell ⟨p, 2, none⟩ (.inl rfl) (.slice (some ⟨gb, 0, none⟩) fr.length d)
  refine ⟨h.Bl.set_ 2 _, own_kept h.P k (fun g _ _ hg e => hA (hg.trans (congrArg some e))), ?_⟩
  have hF := h.F
  have hl : (fr ++ [i]).length = fr.length + 1 := by simp
  rw [hl] at hF
  have : nums (fr ++ [i]) = nums fr ++ [.int .i64 (i : Int)] := by simp [nums]
  rw [this] at hF
  exact own_kept (own_shrink hF) k (fun g _ _ hg e => hB (by rw [hl]; exact (hg.trans (congrArg some e))))
end
set_option maxHeartbeats 400000 in
theorem new_any (room : Nat) (w : World) (h1 : 1 ≤ room) (h2 : room ≤ 1000) :
    Calls Try.prog 35 #[.int .i64 (room : Int)] w fun e w' => ∃ p, e = .returned (.tuple #[.pointer (some ⟨p, 0, none⟩), .int .i64 0]) ∧ w.heap.size ≤ p ∧ At w' p none 0 none 0 room [] [] ∧ Keeps (fun _ => False) w w' := by
  have h3 : (1 : Int) ≤ (room : Int) := by omega
  go_enter Try.func35, Try.ntmps35
  go_wp2_with fail
  go_ret2
  exact ⟨w.heap.size, rfl, Nat.le_refl _, ⟨Blk.new w _ _, World.ownsRow_nil _ _ _ _, World.ownsRow_nil _ _ _ _⟩, (Keeps.refl _ _).alloc _⟩
set_option maxHeartbeats 400000 in
theorem new_no (room : Int) (w : World) (h : room < 1 ∨ 1000 < room) :
    Calls Try.prog 35 #[.int .i64 room] w fun e w' => e = .returned (.tuple #[.pointer none, .int .i64 1]) ∧ w = w' := by
  by_cases h1 : room < 1
  · clear h
    go_enter Try.func35, Try.ntmps35
    go_wp2_with fail
    go_ret2
    exact ⟨rfl, rfl⟩
  · have h2 : 1000 < room := by omega
    clear h
    go_enter Try.func35, Try.ntmps35
    go_wp2_with fail
    go_ret2
    exact ⟨rfl, rfl⟩
set_option maxRecDepth 100000 in
set_option maxHeartbeats 2000000 in
theorem put_free (p : Nat) (A : Option Addr) (c : Nat) (B : Option Addr) (d room : Nat) (ps : List (APlace El)) (fr : List Nat) (i : Nat) (x : APlace El) (v : El) (w : World) (h : At w p A c B d room ps (fr ++ [i])) (hx : ps[i]? = some x) (hg : 0 ≤ x.g ∧ x.g ≤ 1000000) (hl : ps.length ≤ 1000) (hf : fr.length ≤ 1000) :
    Calls Try.prog 36 #[.pointer (some ⟨p, 0, none⟩), .string v] w fun e w' => e = .returned (.tuple #[.agg #[.int .i64 (i : Int), .int .i64 (x.g + 1)], .int .i64 0]) ∧ At w' p A c B d room (ps.set i ⟨v, x.g + 1, true⟩) fr ∧ Keeps (Foot p A B) w w' := by
  obtain ⟨hg0, hg1⟩ := hg
  have h1 := h.stay ((Keeps.refl (fun _ => False) w).alloc (.cells #[.int .i64 0, .int .i64 0] 42))
  have R1 := Blk.new w 42 [.int .i64 0, .int .i64 0]
  have K1 := (Keeps.refl (Foot p A B) w).alloc (.cells #[.int .i64 0, .int .i64 0] 42)
  have hpl := h.Bl.lt
  have hlt := h.lt
  have hil := (List.getElem?_eq_some_iff.1 hx).1
  obtain ⟨gb, rfl, hbp, e0⟩ := h1.free (i := fr.length) (k := i) (by simp)
  have c1 := h1.Bl.cellAt (i := 1) rfl
  have c2 := h1.Bl.cellAt (i := 2) rfl
  obtain ⟨N, hN⟩ : ∃ N, N = (fr ++ [i]).length := ⟨_, rfl⟩
  rw [← hN] at c2
  have hN1 : N = fr.length + 1 := by rw [hN]; simp
  have hw : IntKind.i64.wrap ((N : Int) - 1) = (fr.length : Int) := by rw [IntWalk.i64_in _ (by omega)]; omega
  have i0 : (0 : Int) ≤ (fr.length : Int) := by omega
  have i1 : (fr.length : Int) < (N : Int) := by omega
  have i2 : (0 : Int) < (N : Int) := by omega
  have i3 : 0 < N := by omega
  have hNd : N ≤ d := by
    rcases h.F.2 with ⟨h0, _⟩ | ⟨g, cap, cur, hv, _, _, hnc, _⟩
    · cases h0
    · injection hv with _ _ hc; subst hc; rw [hN]; exact hnc
  have HN := Lib.hid hN
  have HN1 := Lib.hid hN1
  have H1 := Lib.hid h1
  have HLT := Lib.hid hlt
  clear hN hN1 h h1 hlt
  go_enter Try.func36, Try.ntmps36
  go_wp2_with fail
  go_quiet (fail)
  generalize hwd : (w.alloc (.cells #[.int .i64 0, .int .i64 0] 42)).drewN _ = wd
  have Kd : Keeps (fun _ => False) (w.alloc (.cells #[.int .i64 0, .int .i64 0] 42)) wd := by rw [← hwd]; exact (Keeps.refl _ _).drewN _
  clear hwd
  have H2 := H1.out.stay Kd
  have R2 := R1.kept Kd (fun h => h)
  have K2 := K1.trans Kd (fun _ _ h => h.elim)
  clear c1 c2 e0 H1 R1 K1 Kd
  generalize hR : w.heap.size = R at *
  obtain ⟨ga, rfl, hap, d0, d1, d2⟩ := H2.place hx
  have hga : ga < R := HLT.out ga (.inr (.inl rfl))
  have hgb : gb < R := HLT.out gb (.inr (.inr rfl))
  have c1 := H2.Bl.cellAt (i := 1) rfl
  have c2 := H2.Bl.cellAt (i := 2) rfl
  rw [← HN.out] at c2
  have fp := H2.Bl.frozen
  have fa := H2.P.frozenAt
  have fR := R2.frozen
  have r0 := R2.cellAt (i := 0) rfl
  have r1 := R2.cellAt (i := 1) rfl
  have hab := H2.ab
  have hkd : (fr.length : Int) ≤ (d : Int) := by omega
  have hkd2 : fr.length ≤ d := by omega
  have j0 : (0 : Int) ≤ (i : Int) := by omega
  have j1 : (i : Int) < (ps.length : Int) := by omega
  go_wp2_with fail
  go_still_tail 14, (by kernel_rfl)
  clear hw
  go_wp2_with fail
  refine bodyPost_ret (v := .tuple #[.agg #[.int .i64 (i : Int), .int .i64 (x.g + 1)], .int .i64 0]) (by simp [results, Try.results36, go_sem, r0, r1, hga]) rfl ⟨rfl, ?_, ?_⟩
  · have T := (H2.take.turn hx v (x.g + 1) true).kept (((keep1 R _).setCell ⟨R, 0, none⟩ (.inl rfl) (.int .i64 (i : Int))).setCell ⟨R, 1, none⟩ (.inl rfl) (.int .i64 (x.g + 1))) (by
      rintro b (rfl | hb | hb) e
      · have e' : _ = R := e; omega
      · cases hb; exact absurd (show ga = R from e) (by omega)
      · cases hb; exact absurd (show gb = R from e) (by omega))
    exact T.stay (Keeps.drew (Keeps.refl _ _))
  · exact (((((((K2.setCell ⟨p, 2, none⟩ (.inl (.inl rfl)) _).setCell ⟨ga, i * 3, none⟩ (.inl (.inr (.inl rfl))) _).setCell ⟨ga, i * 3 + 2, none⟩ (.inl (.inr (.inl rfl))) _).setCell ⟨ga, i * 3 + 1, none⟩ (.inl (.inr (.inl rfl))) _).setCell ⟨R, 0, none⟩ (.inr (Nat.le_of_eq hR)) _).setCell ⟨R, 1, none⟩ (.inr (Nat.le_of_eq hR)) _)).drew
set_option maxRecDepth 100000 in
set_option maxHeartbeats 1000000 in
theorem put_full (p : Nat) (A : Option Addr) (c : Nat) (B : Option Addr) (d room : Nat) (ps : List (APlace El)) (v : El) (w : World) (h : At w p A c B d room ps []) (hr : room ≤ ps.length) (hl : ps.length ≤ 1000) :
    Calls Try.prog 36 #[.pointer (some ⟨p, 0, none⟩), .string v] w fun e w' => e = .returned (.tuple #[.agg #[.int .i64 0, .int .i64 0], .int .i64 6]) ∧ Keeps (fun _ => False) w w' := by
  have h1 := h.stay ((Keeps.refl (fun _ => False) w).alloc (.cells #[.int .i64 0, .int .i64 0] 42))
  have c0 := h1.Bl.cellAt (i := 0) rfl
  have c1 := h1.Bl.cellAt (i := 1) rfl
  have c2 := h1.Bl.cellAt (i := 2) rfl
  have hri : (room : Int) ≤ (ps.length : Int) := by omega
  have K := (Keeps.refl (fun _ => False) w).alloc (.cells #[.int .i64 0, .int .i64 0] 42)
  clear h h1
  go_enter Try.func36, Try.ntmps36
  go_wp2_with fail
  exact bodyPost_ret (v := .tuple #[.agg #[.int .i64 0, .int .i64 0], .int .i64 6]) (by simp [results, Try.results36, go_sem]) rfl ⟨rfl, by first | exact K | exact (K.setCell _ (.inr (Nat.le_refl _)) _).setCell _ (.inr (Nat.le_refl _)) _⟩
set_option maxRecDepth 100000 in
set_option maxHeartbeats 2000000 in
theorem put_new (p : Nat) (A : Option Addr) (c : Nat) (B : Option Addr) (d room : Nat) (ps : List (APlace El)) (v : El) (w : World) (h : At w p A c B d room ps []) (hr : ps.length < room) (hl : room ≤ 1000) :
    Calls Try.prog 36 #[.pointer (some ⟨p, 0, none⟩), .string v] w fun e w' => e = .returned (.tuple #[.agg #[.int .i64 (ps.length : Int), .int .i64 1], .int .i64 0]) ∧ (∃ A' c', At w' p A' c' B d room (ps ++ [⟨v, 1, true⟩]) [] ∧ ∀ b, Foot p A' B b → Foot p A B b ∨ w.heap.size ≤ b) ∧ Keeps (Foot p A B) w w' := by
  obtain ⟨i0, hi0, hz0, hz1, hz2⟩ := info_parts infoP
  have h1 := h.stay ((Keeps.refl (fun _ => False) w).alloc (.cells #[.int .i64 0, .int .i64 0] 42))
  have R1 := Blk.new w 42 [.int .i64 0, .int .i64 0]
  have K1 := (Keeps.refl (Foot p A B) w).alloc (.cells #[.int .i64 0, .int .i64 0] 42)
  have s1 : w.heap.size < (w.alloc (.cells #[.int .i64 0, .int .i64 0] 42)).heap.size := by simp
  have hpl := h.Bl.lt
  have hlt := h.lt
  have c0 := h1.Bl.cellAt (i := 0) rfl
  have c1 := h1.Bl.cellAt (i := 1) rfl
  have c2 := h1.Bl.cellAt (i := 2) rfl
  have hri : (ps.length : Int) < (room : Int) := by omega
  have HLT := Lib.hid hlt
  clear h hlt
  have hPp := own_type_ne h1.P h1.Bl (by decide)
  have hPR : (Value.slice A ps.length c).ownBlock ≠ some w.heap.size := fun e => by
    have := HLT.out _ (.inr (.inl ((own_same A _ _ _ _).trans e)))
    omega
  have hFP : ∀ k, (Value.slice B 0 d).ownBlock = some k → (Value.slice A ps.length c).ownBlock ≠ some k := by
    intro k hk e
    rcases h1.F.2 with ⟨h0, _⟩ | ⟨g, _, _, hv, _, hh, _⟩
    · have h0 : Value.slice B 0 d = .slice none 0 0 := h0
      rw [h0] at hk; cases hk
    · have hv : Value.slice B 0 d = _ := hv
      rw [hv] at hk
      cases hk
      rcases h1.P.2 with ⟨h0', _⟩ | ⟨g', _, _, hv', _, hh', _⟩
      · rw [h0'] at e; cases e
      · rw [hv'] at e
        cases e
        rw [hh] at hh'
        injection hh' with hh'
        injection hh' with _ ht
        exact absurd ht (by decide)
  go_enter Try.func36, Try.ntmps36
  generalize hww : w.alloc (.cells #[.int .i64 0, .int .i64 0] 42) = w1 at *
  go_wp2_with (at_builtin; refine wpList_append_has rfl (.tmp 17) (.tmp 19) 122 rfl i0 _ 32 Try.underlying122 hi0 hz0 hz1 hz2 rfl (by omega) rfl (own_kept h1.P ((Keeps.refl (fun _ => False) w1).alloc _) (fun _ _ _ _ h => h)) (some ⟨w1.heap.size, 0, none⟩) 1 1 (cf ⟨⟨#[]⟩, 0, false⟩) rfl (Has.box w1 126 3 1 (cf ⟨⟨#[]⟩, 0, false⟩) rfl (by unfold maxLen; omega)) (by have := cells_one [⟨⟨#[]⟩, 0, false⟩]; simpa using this) (by unfold maxLen; omega) (by omega) (Nat.zero_le _) ?_; intro v5 w5 own5 g5 at5; obtain ⟨A5, c5, hv5⟩ := own_shape own5; subst hv5; have hg5 := own_type_ne own5 ((h1.Bl.alloc _).grown g5 hPp) (by decide); obtain ⟨ga, rfl⟩ : ∃ ga, A5 = some ⟨ga, 0, none⟩ := own_addr own5; have hap : ga ≠ p := (fun e => hg5 (congrArg some e)); have H5 := At.grow h1 own5 g5 hPp hFP; have R5 := (R1.alloc (.cells #[.string ⟨#[]⟩, .int .i64 0, .bool false] 126)).grown g5 hPR; have hgR : ga ≠ w.heap.size := own_other own5 R5 (by decide); have K5 : Keeps (Foot p A B) w w5 := keeps_grown (K1.alloc _) g5 (fun g hg => .inl (.inr (.inl ((own_same A _ _ _ _).trans hg)))); have z5 : (Value.slice (some ⟨ga, 0, none⟩) (ps.length + 1) c5).ownBlock = (Value.slice A ps.length c).ownBlock ∨ (Value.slice (some ⟨ga, 0, none⟩) (ps.length + 1) c5).ownBlock = some (w1.heap.size + 1) := (by have e : (w1.alloc (.cells #[.string ⟨#[]⟩, .int .i64 0, .bool false] 126)).heap.size = w1.heap.size + 1 := (by simp); rw [← e]; exact at5); have b0 := ((h1.Bl.alloc _).grown g5 hPp).cellAt (i := 0) rfl; have b1 := ((h1.Bl.alloc _).grown g5 hPp).cellAt (i := 1) rfl; have fp := ((h1.Bl.alloc (.cells #[.string ⟨#[]⟩, .int .i64 0, .bool false] 126)).grown g5 hPp).frozen; have fa := own5.frozenAt; have fR := R5.frozen; have r0 := R5.cellAt (i := 0) rfl; have r1 := R5.cellAt (i := 1) rfl; have d0 : w5.cell? ⟨ga, ps.length * 3, none⟩ = some (.string ⟨#[]⟩) := own_new own5 (j := 0) rfl; have d1 : w5.cell? ⟨ga, ps.length * 3 + 1, none⟩ = some (.int .i64 0) := own_new own5 (j := 1) rfl; have d2 : w5.cell? ⟨ga, ps.length * 3 + 2, none⟩ = some (.bool false) := own_new own5 (j := 2) rfl; have hga : ga < w5.heap.size := (own5.lt ga rfl).2; clear g5 at5 hg5 hPp hPR hFP c0 c1 c2 R1 K1)
  refine bodyPost_ret (v := .tuple #[.agg #[.int .i64 (ps.length : Int), .int .i64 1], .int .i64 0]) (by simp [results, Try.results36, go_sem, r0, r1]) rfl ⟨rfl, ⟨some ⟨ga, 0, none⟩, c5, ?_, ?_⟩, ?_⟩
  · have T := (H5.turn (i := ps.length) (x := ⟨⟨#[]⟩, 0, false⟩) (by simp) v 1 true).kept (((keep1 w.heap.size _).setCell ⟨w.heap.size, 0, none⟩ (.inl rfl) (.int .i64 (ps.length : Int))).setCell ⟨w.heap.size, 1, none⟩ (.inl rfl) (.int .i64 1)) (by
      rintro b (rfl | hb | hb) e
      · exact absurd (show b = w.heap.size from e) (by omega)
      · cases hb; exact hgR e
      · have := HLT.out b (.inr (.inr hb))
        exact absurd (show b = w.heap.size from e) (by omega))
    rw [show (ps ++ [(⟨⟨#[]⟩, 0, false⟩ : APlace El)]).set ps.length ⟨v, 1, true⟩ = ps ++ [⟨v, 1, true⟩] by rw [List.set_append_right _ _ (Nat.le_refl _), Nat.sub_self]; rfl] at T
    exact T
  · rintro b (rfl | hb | hb)
    · exact .inl (.inl rfl)
    · rw [own_same _ 0 0 (ps.length + 1) c5] at hb
      rcases z5 with z | z
      · exact .inl (.inr (.inl (by rw [own_same A 0 0 ps.length c, ← z]; exact hb)))
      · rw [z] at hb
        injection hb with hb
        exact .inr (by omega)
    · exact .inl (.inr (.inr hb))
  · have hgS : Foot p A B ga ∨ w.heap.size ≤ ga := by
      rcases z5 with z | z
      · exact .inl (.inr (.inl (by rw [own_same A 0 0 ps.length c, ← z]; rfl)))
      · have : ga = w1.heap.size + 1 := Option.some.inj z
        exact .inr (by omega)
    exact (((((K5.setCell ⟨p, 1, none⟩ (.inl (.inl rfl)) _).setCell ⟨ga, ps.length * 3, none⟩ hgS _).setCell ⟨ga, ps.length * 3 + 2, none⟩ hgS _).setCell ⟨ga, ps.length * 3 + 1, none⟩ hgS _).setCell ⟨w.heap.size, 0, none⟩ (.inr (Nat.le_refl _)) _).setCell ⟨w.heap.size, 1, none⟩ (.inr (Nat.le_refl _)) _
set_option maxRecDepth 100000 in
set_option maxHeartbeats 1000000 in
theorem find_arg (p : Nat) (A : Option Addr) (c : Nat) (B : Option Addr) (d room : Nat) (ps : List (APlace El)) (fr : List Nat) (s g : Int) (w : World) (h : At w p A c B d room ps fr) (hs : s < 0 ∨ (room : Int) ≤ s) :
    Calls Try.prog 76 #[.pointer (some ⟨p, 0, none⟩), .agg #[.int .i64 s, .int .i64 g]] w fun e w' => e = .returned (.tuple #[.pointer none, .int .i64 1]) ∧ Keeps (fun _ => False) w w' := by
  have h1 := h.stay ((Keeps.refl (fun _ => False) w).alloc (.cells #[.int .i64 s, .int .i64 g] 42))
  have R1 := Blk.new w 42 [.int .i64 s, .int .i64 g]
  have K1 := (Keeps.refl (fun _ => False) w).alloc (.cells #[.int .i64 s, .int .i64 g] 42)
  have c0 := h1.Bl.cellAt (i := 0) rfl
  have r0 : (w.alloc (.cells #[.int .i64 s, .int .i64 g] 42)).cell? ⟨w.heap.size, 0, none⟩ = some (.int .i64 s) := R1.cellAt (i := 0) rfl
  clear h h1 R1
  by_cases h2 : s < 0
  · have hd : decide (s < 0) = true := by simpa using h2
    clear hs
    go_enter Try.func76, Try.ntmps76
    go_wp2_with fail
    go_quiet (fail)
    go_wp2_with fail
    go_ret2
    exact ⟨rfl, K1.drewN _⟩
  · have hd : decide (s < 0) = false := by simpa using h2
    have h3 : (room : Int) ≤ s := by omega
    have hd2 : decide ((room : Int) ≤ s) = true := by simpa using h3
    clear hs
    go_enter Try.func76, Try.ntmps76
    go_wp2_with fail
    go_quiet (fail)
    go_wp2_with fail
    go_ret2
    exact ⟨rfl, K1.drewN _⟩

theorem code_no {room : Nat} {ps : List (APlace El)} {s g : Int} (h : code room ps s g ≠ 0) (h1 : ¬ (s < 0 ∨ (room : Int) ≤ s)) : code room ps s g = 7 ∧ ∀ x, ps[s.toNat]? = some x → ¬ (x.on = true ∧ x.g = g) := by
  unfold code at h ⊢
  rw [if_neg h1] at h ⊢
  cases hx : ps[s.toNat]? with
  | none => exact ⟨rfl, fun x hx => nomatch hx⟩
  | some x =>
    rw [hx] at h
    dsimp only at h ⊢
    by_cases hc : x.on = true ∧ x.g = g
    · rw [if_pos hc] at h; exact absurd rfl h
    · rw [if_neg hc]
      exact ⟨rfl, fun y hy => by cases hy; exact hc⟩
theorem code_ok {room : Nat} {ps : List (APlace El)} {s g : Int} (h : code room ps s g = 0) : ∃ (i : Nat) (x : APlace El), s = (i : Int) ∧ i < room ∧ ps[i]? = some x ∧ x.on = true ∧ x.g = g := by
  unfold code at h
  by_cases h1 : s < 0 ∨ (room : Int) ≤ s
  · rw [if_pos h1] at h; cases h
  · rw [if_neg h1] at h
    cases hx : ps[s.toNat]? with
    | none => rw [hx] at h; cases h
    | some x =>
      rw [hx] at h
      dsimp only at h
      by_cases hc : x.on = true ∧ x.g = g
      · exact ⟨s.toNat, x, by omega, by omega, hx, hc.1, hc.2⟩
      · rw [if_neg hc] at h; cases h
set_option maxRecDepth 100000 in
set_option maxHeartbeats 2000000 in
theorem find_old (p : Nat) (A : Option Addr) (c : Nat) (B : Option Addr) (d room : Nat) (ps : List (APlace El)) (fr : List Nat) (s : Nat) (g : Int) (w : World) (h : At w p A c B d room ps fr) (hs : s < room) (hr : room ≤ 1000) (hl : ps.length ≤ 1000) (hx : ∀ x, ps[s]? = some x → ¬ (x.on = true ∧ x.g = g)) :
    Calls Try.prog 76 #[.pointer (some ⟨p, 0, none⟩), .agg #[.int .i64 (s : Int), .int .i64 g]] w fun e w' => e = .returned (.tuple #[.pointer none, .int .i64 7]) ∧ Keeps (fun _ => False) w w' := by
  have h1 := h.stay ((Keeps.refl (fun _ => False) w).alloc (.cells #[.int .i64 (s : Int), .int .i64 g] 42))
  have R1 := Blk.new w 42 [.int .i64 (s : Int), .int .i64 g]
  have K1 := (Keeps.refl (fun _ => False) w).alloc (.cells #[.int .i64 (s : Int), .int .i64 g] 42)
  have c0 := h1.Bl.cellAt (i := 0) rfl
  have c1 := h1.Bl.cellAt (i := 1) rfl
  have r0 : (w.alloc (.cells #[.int .i64 (s : Int), .int .i64 g] 42)).cell? ⟨w.heap.size, 0, none⟩ = some (.int .i64 (s : Int)) := R1.cellAt (i := 0) rfl
  have r1 : (w.alloc (.cells #[.int .i64 (s : Int), .int .i64 g] 42)).cell? ⟨w.heap.size, 1, none⟩ = some (.int .i64 g) := R1.cellAt (i := 1) rfl
  have hd : decide ((s : Int) < 0) = false := by simp
  have hd2 : decide ((room : Int) ≤ (s : Int)) = false := by simp; omega
  have hd2' : decide (room ≤ s) = false := by simp; omega
  have HX := Lib.hid hx
  have H1 := Lib.hid h1
  clear h hx h1
  generalize hww : w.alloc (.cells #[.int .i64 (s : Int), .int .i64 g] 42) = w1 at *
  by_cases hlt : s < ps.length
  · obtain ⟨x, hx⟩ : ∃ x, ps[s]? = some x := ⟨_, List.getElem?_eq_getElem hlt⟩
    have hno := HX.out x hx
    obtain ⟨ga, rfl, hap, d0, d1, d2⟩ := H1.out.place hx
    have hd3 : decide ((ps.length : Int) ≤ (s : Int)) = false := by simp; omega
    have hd3' : decide (ps.length ≤ s) = false := by simp; omega
    have j0 : (0 : Int) ≤ (s : Int) := by omega
    have j1 : (s : Int) < (ps.length : Int) := by omega
    clear hx
    obtain ⟨xv, xg, xo⟩ := x
    dsimp only at *
    cases xo with
    | false =>
      clear hno
      go_enter Try.func76, Try.ntmps76
      go_wp2_with fail
      try rw [hww]
      go_quiet (fail)
      go_wp2_with fail
      go_quiet (fail)
      go_wp2_with fail
      go_ret2
      exact ⟨rfl, (K1.drewN _).drewN _⟩
    | true =>
      have hne : (xg != g) = true := by simp; exact fun e => hno ⟨rfl, e⟩
      clear hno
      go_enter Try.func76, Try.ntmps76
      go_wp2_with fail
      try rw [hww]
      go_quiet (fail)
      go_wp2_with fail
      go_quiet (fail)
      go_wp2_with fail
      go_ret2
      exact ⟨rfl, (K1.drewN _).drewN _⟩
  · have hd3 : decide ((ps.length : Int) ≤ (s : Int)) = true := by simp; omega
    have hd3' : decide (ps.length ≤ s) = true := by simp; omega
    go_enter Try.func76, Try.ntmps76
    go_wp2_with fail
    try rw [hww]
    go_quiet (fail)
    go_wp2_with fail
    go_quiet (fail)
    go_wp2_with fail
    go_ret2
    exact ⟨rfl, (K1.drewN _).drewN _⟩

set_option maxRecDepth 100000 in
set_option maxHeartbeats 2000000 in
theorem find_ok (p : Nat) (A : Option Addr) (c : Nat) (B : Option Addr) (d room : Nat) (ps : List (APlace El)) (fr : List Nat) (s : Nat) (x : APlace El) (w : World) (h : At w p A c B d room ps fr) (hs : s < room) (hr : room ≤ 1000) (hl : ps.length ≤ 1000) (hx : ps[s]? = some x) (ho : x.on = true) :
    Calls Try.prog 76 #[.pointer (some ⟨p, 0, none⟩), .agg #[.int .i64 (s : Int), .int .i64 x.g]] w fun e w' => (∃ ga, A = some ⟨ga, 0, none⟩ ∧ e = .returned (.tuple #[.pointer (some ⟨ga, s * 3, none⟩), .int .i64 0])) ∧ Keeps (fun _ => False) w w' := by
  have h1 := h.stay ((Keeps.refl (fun _ => False) w).alloc (.cells #[.int .i64 (s : Int), .int .i64 x.g] 42))
  have R1 := Blk.new w 42 [.int .i64 (s : Int), .int .i64 x.g]
  have K1 := (Keeps.refl (fun _ => False) w).alloc (.cells #[.int .i64 (s : Int), .int .i64 x.g] 42)
  have c0 := h1.Bl.cellAt (i := 0) rfl
  have c1 := h1.Bl.cellAt (i := 1) rfl
  have r0 : (w.alloc (.cells #[.int .i64 (s : Int), .int .i64 x.g] 42)).cell? ⟨w.heap.size, 0, none⟩ = some (.int .i64 (s : Int)) := R1.cellAt (i := 0) rfl
  have r1 : (w.alloc (.cells #[.int .i64 (s : Int), .int .i64 x.g] 42)).cell? ⟨w.heap.size, 1, none⟩ = some (.int .i64 x.g) := R1.cellAt (i := 1) rfl
  have hd : decide ((s : Int) < 0) = false := by simp
  have hd2 : decide ((room : Int) ≤ (s : Int)) = false := by simp; omega
  have hd2' : decide (room ≤ s) = false := by simp; omega
  have hlt := (List.getElem?_eq_some_iff.1 hx).1
  obtain ⟨ga, rfl, hap, d0, d1, d2⟩ := h1.place hx
  have hd3 : decide ((ps.length : Int) ≤ (s : Int)) = false := by simp; omega
  have hd3' : decide (ps.length ≤ s) = false := by simp; omega
  have j0 : (0 : Int) ≤ (s : Int) := by omega
  have j1 : (s : Int) < (ps.length : Int) := by omega
  obtain ⟨xv, xg, xo⟩ := x
  dsimp only at *
  subst ho
  clear h h1 R1 hx
  generalize hww : w.alloc (.cells #[.int .i64 (s : Int), .int .i64 xg] 42) = w1 at *
  go_enter Try.func76, Try.ntmps76
  go_wp2_with fail
  try rw [hww]
  go_quiet (fail)
  go_wp2_with fail
  go_quiet (fail)
  go_wp2_with fail
  go_quiet (fail)
  go_wp2_with fail
  go_ret2
  exact ⟨⟨ga, rfl, rfl⟩, ((K1.drewN _).drewN _).drewN _⟩
/-- find, of whatever is not there. -/
theorem find_no (p : Nat) (A : Option Addr) (c : Nat) (B : Option Addr) (d room : Nat) (ps : List (APlace El)) (fr : List Nat) (s g : Int) (w : World) (h : At w p A c B d room ps fr) (hr : room ≤ 1000) (hl : ps.length ≤ 1000) (r : Int) (hc : code room ps s g = r) (hr0 : r ≠ 0) :
    Calls Try.prog 76 #[.pointer (some ⟨p, 0, none⟩), .agg #[.int .i64 s, .int .i64 g]] w fun e w' => e = .returned (.tuple #[.pointer none, .int .i64 r]) ∧ Keeps (fun _ => False) w w' := by
  subst hc
  by_cases h1 : s < 0 ∨ (room : Int) ≤ s
  · have : code room ps s g = 1 := by unfold code; rw [if_pos h1]
    rw [this]
    exact find_arg p A c B d room ps fr s g w h h1
  · obtain ⟨e1, e2⟩ := code_no hr0 h1
    rw [e1]
    obtain ⟨i, rfl⟩ : ∃ i : Nat, s = (i : Int) := ⟨s.toNat, by omega⟩
    exact find_old p A c B d room ps fr i g w h (by omega) hr hl e2
set_option maxHeartbeats 1000000 in
theorem get_no (p : Nat) (A : Option Addr) (c : Nat) (B : Option Addr) (d room : Nat) (ps : List (APlace El)) (fr : List Nat) (s g : Int) (w : World) (h : At w p A c B d room ps fr) (hr : room ≤ 1000) (hl : ps.length ≤ 1000) (r : Int) (hc : code room ps s g = r) (hr0 : r ≠ 0) :
    Calls Try.prog 38 #[.pointer (some ⟨p, 0, none⟩), .agg #[.int .i64 s, .int .i64 g]] w fun e w' => e = .returned (.tuple #[.string ⟨#[]⟩, .int .i64 r]) ∧ Keeps (fun _ => False) w w' := by
  have h1 := h.stay ((Keeps.refl (fun _ => False) w).alloc (.cells #[.int .i64 s, .int .i64 g] 42))
  have K1 := (Keeps.refl (fun _ => False) w).alloc (.cells #[.int .i64 s, .int .i64 g] 42)
  have hrb : (r != 0) = true := by simpa using hr0
  have HC := Lib.hid hc
  have HR := Lib.hid hr0
  clear hc h hr0
  go_enter Try.func38, Try.ntmps38
  go_wp2_with fail
  refine (find_no p A c B d room ps fr s g _ h1 hr hl r HC.out HR.out).mono ?_
  rintro e w2 ⟨rfl, k2⟩
  have K2 := K1.trans k2 (fun _ _ h => h)
  go_wp2_with fail
  go_ret2
  exact ⟨rfl, K2⟩
set_option maxHeartbeats 1000000 in
theorem get_ok (p : Nat) (A : Option Addr) (c : Nat) (B : Option Addr) (d room : Nat) (ps : List (APlace El)) (fr : List Nat) (s : Nat) (x : APlace El) (w : World) (h : At w p A c B d room ps fr) (hs : s < room) (hr : room ≤ 1000) (hl : ps.length ≤ 1000) (hx : ps[s]? = some x) (ho : x.on = true) :
    Calls Try.prog 38 #[.pointer (some ⟨p, 0, none⟩), .agg #[.int .i64 (s : Int), .int .i64 x.g]] w fun e w' => e = .returned (.tuple #[.string x.v, .int .i64 0]) ∧ Keeps (fun _ => False) w w' := by
  have h1 := h.stay ((Keeps.refl (fun _ => False) w).alloc (.cells #[.int .i64 (s : Int), .int .i64 x.g] 42))
  have K1 := (Keeps.refl (fun _ => False) w).alloc (.cells #[.int .i64 (s : Int), .int .i64 x.g] 42)
  have HO := Lib.hid ho
  have HX := Lib.hid hx
  clear h ho hx
  go_enter Try.func38, Try.ntmps38
  go_wp2_with fail
  refine (find_ok p A c B d room ps fr s x _ h1 hs hr hl HX.out HO.out).mono ?_
  rintro e w2 ⟨⟨ga, rfl, rfl⟩, k2⟩
  have K2 := K1.trans k2 (fun _ _ h => h)
  obtain ⟨ga', hA, hap, d0, d1, d2⟩ := (h1.stay k2).place HX.out
  cases hA
  go_wp2_with fail
  go_ret2
  exact ⟨rfl, K2⟩

section
variable {w : World} {p c d room ga gb i R : Nat} {A B : Option Addr} {ps : List (APlace El)} {fr : List Nat}
theorem At.fr_ne (h : At w p (some ⟨ga, 0, none⟩) c B d room ps fr) : ∀ k, (Value.slice B fr.length d).ownBlock = some k → k ≠ ga := by
  rintro k hk rfl
  rcases h.F.2 with ⟨h0, _⟩ | ⟨g', _, _, hv, _⟩
  · rw [h0] at hk; cases hk
  · injection hv with hv
    subst hv
    cases hk
    exact h.ab rfl
/-- The place i: what it holds is written. -/
theorem At.put1 (h : At w p (some ⟨ga, 0, none⟩) c B d room ps fr) {x : APlace El} (hx : ps[i]? = some x) (v : El) :
    At (w.setCell ⟨ga, i * 3, none⟩ (.string v)) p (some ⟨ga, 0, Option.none⟩) c B d room (ps.set i ⟨v, x.g, x.on⟩) fr := by
  have hp : p ≠ ga := fun e => own_type_ne h.P h.Bl (by decide) (congrArg some e.symm)
  have k : Keeps (· = ga) w (w.setCell ⟨ga, i * 3, none⟩ (.string v)) := (keep1 ga w).setCell _ (.inl rfl) _
  refine ⟨by rw [List.length_set]; exact h.Bl.kept k hp, ?_, own_kept h.F k (fun g _ _ hg e => h.fr_ne g hg e)⟩
  rw [List.length_set]
  exact own_put (j := 0) (x' := ⟨v, x.g, x.on⟩) (u := .string v) cf_len (by omega) h.P hx (by omega) rfl
/-- .. and whether something is in it. -/
theorem At.put2 (h : At w p (some ⟨ga, 0, none⟩) c B d room ps fr) {x : APlace El} (hx : ps[i]? = some x) (v : El) (on : Bool) :
    At ((w.setCell ⟨ga, i * 3, none⟩ (.string v)).setCell ⟨ga, i * 3 + 2, none⟩ (.bool on)) p (some ⟨ga, 0, Option.none⟩) c B d room (ps.set i ⟨v, x.g, on⟩) fr := by
  have hi := (List.getElem?_eq_some_iff.1 hx).1
  have h1 := h.put1 hx v
  have hp : p ≠ ga := fun e => own_type_ne h.P h.Bl (by decide) (congrArg some e.symm)
  have k : Keeps (· = ga) (w.setCell ⟨ga, i * 3, none⟩ (.string v)) ((w.setCell ⟨ga, i * 3, none⟩ (.string v)).setCell ⟨ga, i * 3 + 2, none⟩ (.bool on)) := (keep1 ga _).setCell _ (.inl rfl) _
  refine ⟨by have := h1.Bl.kept k hp; rw [List.length_set] at this ⊢; exact this, ?_, own_kept h1.F k (fun g _ _ hg e => h1.fr_ne g hg e)⟩
  have o2 := own_put (j := 2) (i := i) (x := ⟨v, x.g, x.on⟩) (x' := ⟨v, x.g, on⟩) (u := .bool on) cf_len (by omega) h1.P (List.getElem?_set_self hi) (by omega) rfl
  rw [List.set_set, List.length_set] at o2
  rw [List.length_set]
  exact o2
/-- Behind an append of a free place, and the store of the longer slice. -/
theorem At.growB {w' : World} {B' : Option Addr} {d' : Nat} {row : Option Nat} (h : At w p A c B d room ps fr) (own : w'.ownsRow 0 3 1 (.slice B' (fr.length + 1) d') (fr.length + 1) (nums fr ++ [.int .i64 (i : Int)]))
    (hg : (w.alloc (.cells #[.int .i64 (i : Int)] 3)).grownBy w' row) (hp : row ≠ some p) (hA : ∀ k, (Value.slice A ps.length c).ownBlock = some k → row ≠ some k) :
    At (w'.setCell ⟨p, 2, none⟩ (.slice B' (fr.length + 1) d')) p A c B' d' room ps (fr ++ [i]) := by
  have hl : (fr ++ [i]).length = fr.length + 1 := by simp
  have hn : nums (fr ++ [i]) = nums fr ++ [.int .i64 (i : Int)] := by simp [nums]
  have B5 := (h.Bl.alloc (.cells #[.int .i64 (i : Int)] 3)).grown hg hp
  have hgp := own_type_ne own B5 (by decide)
  have k := (keep1 p w').setCell ⟨p, 2, none⟩ (.inl rfl) (.slice B' (fr.length + 1) d')
  have hPp : ∀ g, (Value.slice A ps.length c).ownBlock = some g → g ≠ p := fun g hg e => own_type_ne h.P h.Bl (by decide) (by rw [← e]; exact hg)
  refine ⟨by rw [hl]; exact B5.set_ 2 _, ?_, by rw [hl, hn]; exact own_kept own k (fun g _ _ hg e => hgp (hg.trans (congrArg some e)))⟩
  exact own_kept (own_kept (own_kept h.P ((Keeps.refl (fun _ => False) w).alloc _) (fun _ _ _ _ h => h)) (S := fun g => row = some g) (keeps_grown (Keeps.refl _ _) hg (fun g hg => .inl hg)) (fun g _ _ hg => hA g hg)) k (fun g _ _ hg e => hPp g hg e)
theorem At.pf_ne (h : At w p A c B d room ps fr) : ∀ k, (Value.slice A ps.length c).ownBlock = some k → (Value.slice B fr.length d).ownBlock ≠ some k := by
  intro k hk e
  rcases h.P.2 with ⟨h0, _⟩ | ⟨g, _, _, hv, _, hh, _⟩
  · rw [h0] at hk; cases hk
  · rw [hv] at hk
    cases hk
    rcases h.F.2 with ⟨h0', _⟩ | ⟨g', _, _, hv', _, hh', _⟩
    · rw [h0'] at e; cases e
    · rw [hv'] at e
      cases e
      rw [hh] at hh'
      injection hh' with hh'
      injection hh' with _ ht
      exact absurd ht (by decide)
end
set_option maxHeartbeats 1000000 in
theorem free_no (p : Nat) (A : Option Addr) (c : Nat) (B : Option Addr) (d room : Nat) (ps : List (APlace El)) (fr : List Nat) (s g : Int) (w : World) (h : At w p A c B d room ps fr) (hr : room ≤ 1000) (hl : ps.length ≤ 1000) (r : Int) (hc : code room ps s g = r) (hr0 : r ≠ 0) :
    Calls Try.prog 42 #[.pointer (some ⟨p, 0, none⟩), .agg #[.int .i64 s, .int .i64 g]] w fun e w' => e = .returned (.int .i64 r) ∧ Keeps (fun _ => False) w w' := by
  have h1 := h.stay ((Keeps.refl (fun _ => False) w).alloc (.cells #[.int .i64 s, .int .i64 g] 42))
  have K1 := (Keeps.refl (fun _ => False) w).alloc (.cells #[.int .i64 s, .int .i64 g] 42)
  have hrb : (r != 0) = true := by simpa using hr0
  have HC := Lib.hid hc
  have HR := Lib.hid hr0
  clear hc h hr0
  go_enter Try.func42, Try.ntmps42
  go_wp2_with fail
  refine (find_no p A c B d room ps fr s g _ h1 hr hl r HC.out HR.out).mono ?_
  rintro e w2 ⟨rfl, k2⟩
  have K2 := K1.trans k2 (fun _ _ h => h)
  go_wp2_with fail
  go_ret
  exact ⟨rfl, K2⟩
set_option maxRecDepth 100000 in
set_option maxHeartbeats 2000000 in
theorem free_ok (p : Nat) (A : Option Addr) (c : Nat) (B : Option Addr) (d room : Nat) (ps : List (APlace El)) (fr : List Nat) (s : Nat) (x : APlace El) (w : World) (h : At w p A c B d room ps fr) (hs : s < room) (hr : room ≤ 1000) (hl : ps.length ≤ 1000) (hf : fr.length ≤ 1000) (hx : ps[s]? = some x) (ho : x.on = true) :
    Calls Try.prog 42 #[.pointer (some ⟨p, 0, none⟩), .agg #[.int .i64 (s : Int), .int .i64 x.g]] w fun e w' => e = .returned (.int .i64 0) ∧ (∃ B' d', At w' p A c B' d' room (ps.set s ⟨⟨#[]⟩, x.g, false⟩) (fr ++ [s]) ∧ ∀ b, Foot p A B' b → Foot p A B b ∨ w.heap.size ≤ b) ∧ Keeps (Foot p A B) w w' := by
  obtain ⟨i0, hi0, hz0, hz1, hz2⟩ := info_parts infoI
  have h1 := h.stay ((Keeps.refl (fun _ => False) w).alloc (.cells #[.int .i64 (s : Int), .int .i64 x.g] 42))
  have R1 := Blk.new w 42 [.int .i64 (s : Int), .int .i64 x.g]
  have K1 := (Keeps.refl (Foot p A B) w).alloc (.cells #[.int .i64 (s : Int), .int .i64 x.g] 42)
  have hpl := h.Bl.lt
  have hlt := h.lt
  have HLT := Lib.hid hlt
  have HO := Lib.hid ho
  have HX := Lib.hid hx
  clear h ho hx hlt
  go_enter Try.func42, Try.ntmps42
  go_wp2_with fail
  refine (find_ok p A c B d room ps fr s x _ h1 hs hr hl HX.out HO.out).mono ?_
  rintro e w2 ⟨⟨ga, rfl, rfl⟩, k2⟩
  have H2 := h1.stay k2
  have R2 := R1.kept k2 (fun h => h)
  have K2 := K1.trans k2 (fun _ _ h => h.elim)
  clear h1 R1 K1 k2
  obtain ⟨ga', hA, hap, d0, d1, d2⟩ := H2.place HX.out
  cases hA
  have hga : ga < w.heap.size := HLT.out ga (.inr (.inl rfl))
  have hgR : ga ≠ w.heap.size := by omega
  have fa := H2.P.frozenAt
  have H3 := H2.put2 HX.out ⟨#[]⟩ false
  have R3 := (R2.far (p := ⟨ga, s * 3, none⟩) (fun e => hgR e.symm) (.string ⟨#[]⟩)).far (p := ⟨ga, s * 3 + 2, none⟩) (fun e => hgR e.symm) (.bool false)
  have K3 := (K2.setCell ⟨ga, s * 3, none⟩ (.inl (.inr (.inl rfl))) (.string ⟨#[]⟩)).setCell ⟨ga, s * 3 + 2, none⟩ (.inl (.inr (.inl rfl))) (.bool false)
  go_wp2_with fail
  clear d0 d1 d2 fa H2 R2 K2
  generalize (w2.setCell ⟨ga, s * 3, none⟩ (.string ⟨#[]⟩)).setCell ⟨ga, s * 3 + 2, none⟩ (.bool false) = w3 at *
  generalize hR : w.heap.size = R at *
  have c2 := H3.Bl.cellAt (i := 2) rfl
  have r0 := R3.cellAt (i := 0) rfl
  have hBp := own_type_ne H3.F H3.Bl (by decide)
  have hPB := H3.pf_ne
  rw [List.length_set] at hPB
  have z3 := K3.size
  have hp3 := H3.Bl.lt
  have hR3 := R3.lt
  clear R3
  go_region_law (refine step_append_has rfl (.tmp 28) (.tmp 31) 58 rfl i0 _ 8 Try.underlying58 hi0 hz0 hz1 hz2 rfl (by omega) (by simp [Act.eval, Act.put]) (own_kept H3.F ((Keeps.refl (fun _ => False) w3).alloc _) (fun _ _ _ _ h => h)).drew (some ⟨w3.heap.size, 0, none⟩) 1 1 [.int .i64 (s : Int)] (by simp [Act.eval, Act.put]) (by have := Has.box w3 3 1 1 [.int .i64 (s : Int)] rfl (by unfold maxLen; omega); exact this) (ints_one .i64 [(s : Int)]) (by unfold maxLen; omega) (by omega) (Nat.zero_le _) ?_; intro v5 w5 own5 g5 at5; obtain ⟨B5, e5, hv5⟩ := own_shape own5; subst hv5; have G5 : (w3.alloc (.cells #[.int .i64 (s : Int)] 3)).grownBy w5 (Value.slice B fr.length d).ownBlock := ⟨g5.os, g5.tape, g5.output, g5.size, g5.block⟩; have H5 := At.growB H3 own5 G5 hBp (by rw [List.length_set]; exact hPB); have Q5 := (H3.Bl.alloc (.cells #[.int .i64 (s : Int)] 3)).grown G5 hBp; have b2 := Q5.cellAt (i := 2) rfl; have fp := Q5.frozen; have K5 : Keeps (Foot p (some ⟨ga, 0, none⟩) B) w w5 := keeps_grown (K3.alloc _) G5 (fun g hg => .inl (.inr (.inr ((own_same B _ _ _ _).trans hg)))); have z5 : (Value.slice B5 (fr.length + 1) e5).ownBlock = (Value.slice B fr.length d).ownBlock ∨ (Value.slice B5 (fr.length + 1) e5).ownBlock = some (w3.heap.size + 1) := (by have e : ((w3.alloc (.cells #[.int .i64 (s : Int)] 3)).drew).heap.size = w3.heap.size + 1 := (by simp); rw [← e]; exact at5); clear g5 at5 G5 own5 Q5)
  all_goals
    go_wp2_with fail
    go_ret
    refine ⟨rfl, ⟨B5, e5, H5, ?_⟩, K5.setCell _ (.inl (.inl rfl)) _⟩
    rintro b (rfl | hb | hb)
    · exact .inl (.inl rfl)
    · exact .inl (.inr (.inl hb))
    · rw [own_same _ 0 0 (fr.length + 1) e5] at hb
      rcases z5 with z | z
      · exact .inl (.inr (.inr (by rw [own_same B 0 0 fr.length d, ← z]; exact hb)))
      · rw [z] at hb
        injection hb with hb
        exact .inr (by omega)
end ArS
end Go.Proofs.Ytpfhogbkbodfjab
