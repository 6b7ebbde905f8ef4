/- The reference's Arena: Free and Put; conditions: at most 1000 places. -/
import Derived.Test.YtpfhogbkbodfjabRefAr
namespace Go.Proofs.Ytpfhogbkbodfjab
open Go.RowKit
set_option linter.unusedVariables false
set_option linter.unusedSimpArgs false
namespace RefAr
open Ar
theorem infoI : (Try.prog.info? 3).map (fun i => (i.zero, i.size, i.bytes)) = some (some (.int .i64 0), 1, 8) := by kernel_rfl
theorem infoL : (Try.prog.info? 2).map (fun i => (i.zero, i.size, i.bytes)) = some (some (.int .i64 0), 1, 8) := by kernel_rfl
theorem infoB : (Try.prog.info? 4).map (fun i => (i.zero, i.size, i.bytes)) = some (some (.bool false), 1, 1) := by kernel_rfl
theorem infoS : (Try.prog.info? 9).map (fun i => (i.zero, i.size, i.bytes)) = some (some (.string ⟨#[]⟩), 1, 16) := by kernel_rfl
theorem nums_one (fr : List Nat) : ∀ u ∈ nums fr, u.oneCell' = true := by
  intro u hu
  obtain ⟨b, _, rfl⟩ := List.mem_map.1 hu
  rfl
set_option maxHeartbeats 1000000 in
theorem free_no (p : Nat) (s : Sh) (room : Nat) (ps : List Pl) (fr : List Nat) (sl g : Int) (w : World) (h : At w p s room ps fr) (hr : room ≤ 1000) (hl : ps.length ≤ 1000) (r : Int) (hc : code room ps sl g = r) (hr0 : r ≠ 0) :
    Calls Try.prog 43 #[.pointer (some ⟨p, 0, none⟩), .int .i64 sl, .int .i64 g] w fun e w' => e = .returned (.int .i64 r) ∧ Keeps (fun _ => False) w w' := by
  have hrb : (r == 0) = false := by simpa using hr0
  have HC := Lib.hid hc
  clear hc hr0
  go_enter Try.func43, Try.ntmps43
  go_wp2_with fail
  refine (find_any p s room ps fr sl g _ h hr hl).mono ?_
  rintro e w2 ⟨rfl, k2⟩
  rw [HC.out]
  go_wp2_with fail
  go_ret
  exact ⟨rfl, k2⟩
set_option maxRecDepth 100000 in
set_option maxHeartbeats 2000000 in
theorem free_ok (p : Nat) (s : Sh) (room : Nat) (ps : List Pl) (fr : List Nat) (i : Nat) (g : Int) (x : Pl) (w : World) (h : At w p s room ps fr) (hr : room ≤ 1000) (hl : ps.length ≤ 1000) (hf : fr.length ≤ 1000) (hc : code room ps i g = 0) (hx : ps[i]? = some x) :
    Calls Try.prog 43 #[.pointer (some ⟨p, 0, none⟩), .int .i64 (i : Int), .int .i64 g] w fun e w' => e = .returned (.int .i64 0) ∧ (∃ B b, At w' p { s with B := B, b := b } room (ps.set i ⟨⟨#[]⟩, x.g, false⟩) (fr ++ [i]) ∧ ∀ q, Foot p { s with B := B, b := b } q → Foot p s q ∨ w.heap.size ≤ q) ∧ Keeps (Foot p s) w w' := by
  obtain ⟨i0, hi0, hz0, hz1, hz2⟩ := info_parts infoI
  have HC := Lib.hid hc
  have HX := Lib.hid hx
  have h3 := (List.getElem?_eq_some_iff.1 hx).1
  have j0 : (0 : Int) ≤ (i : Int) := by omega
  have j1 : (i : Int) < (ps.length : Int) := by omega
  clear hc hx
  go_enter Try.func43, Try.ntmps43
  go_wp2_with fail
  refine (find_any p s room ps fr i g _ h hr hl).mono ?_
  rintro e w2 ⟨rfl, k2⟩
  rw [HC.out]
  have h2 := h.stay k2
  have c1 := h2.Bl.cellAt (i := 1) rfl
  have c3 := h2.Bl.cellAt (i := 3) rfl
  obtain ⟨ga, gg, gv, hA, hG, hV, d0, d1, d2⟩ := h2.place HX.out
  have fv := h2.V
  have fi := h2.I
  have n1 : ga ≠ gv := fun e => types_ne (Has.of_own fi) (Has.of_own fv) (by decide) (g := ga) (by rw [ob_eq, hA]; rfl) (by rw [ob_eq, hV, e]; rfl)
  have n2 : ga ≠ p := fun e => type_blk (Has.of_own fi) h2.Bl (by decide) (by rw [ob_eq, hA, ← e]; rfl)
  have n3 : gv ≠ p := fun e => type_blk (Has.of_own fv) h2.Bl (by decide) (by rw [ob_eq, hV, ← e]; rfl)
  have H3 := (h2.setOn hA HX.out false).setV hV (i := i) (x := ⟨x.v, x.g, false⟩) (List.getElem?_set_self h3) ⟨#[]⟩
  have H3' := (h2.setV hV HX.out ⟨#[]⟩).setOn hA (i := i) (x := ⟨⟨#[]⟩, x.g, x.on⟩) (List.getElem?_set_self h3) false
  rw [List.set_set] at H3 H3'
  have K2 := k2.mono (S' := Foot p s) (fun _ _ h => h.elim)
  have K3 := (K2.setCell ⟨ga, i, none⟩ (.inl (.inr (.inl (by rw [hA]; rfl)))) (.bool false)).setCell ⟨gv, i, none⟩ (.inl (.inr (.inr (.inr (.inl (by rw [hV]; rfl)))))) (.string ⟨#[]⟩)
  have K3' := (K2.setCell ⟨gv, i, none⟩ (.inl (.inr (.inr (.inr (.inl (by rw [hV]; rfl)))))) (.string ⟨#[]⟩)).setCell ⟨ga, i, none⟩ (.inl (.inr (.inl (by rw [hA]; rfl)))) (.bool false)
  rw [hV] at c3 fv
  rw [hA] at c1 fi
  have fv := fv.frozenAt
  have fi := fi.frozenAt
  have H3 := Lib.hid H3
  have H3' := Lib.hid H3'
  have K3 := Lib.hid K3
  have K3' := Lib.hid K3'
  clear hA hG hV d1 h h2 k2 K2
  go_wp2_with fail
  go_region
  all_goals
    generalize hw3 : World.drew _ = w3
    have H4 : At w3 p s room (ps.set i ⟨⟨#[]⟩, x.g, false⟩) fr := by rw [← hw3]; exact H3.out.stay (Keeps.drew (Keeps.refl _ _))
    have K4 : Keeps (Foot p s) w w3 := by rw [← hw3]; exact K3.out.drew
    clear c1 c3 d0 d2 fv fi H3 H3' K3 K3' hw3
    have b4 : (w3.alloc (.cells #[] 3)).cell? ⟨p, 4, none⟩ = some (.slice s.B fr.length s.b) := (H4.Bl.alloc _).cellAt (i := 4) rfl
    have z4 := K4.size
    have hp4 := H4.Bl.lt
    have FF := H4.F
    go_wp2_with (first | (at_builtin; refine wpList_append_has rfl (.tmp 27) (.tmp 31) 58 rfl i0 _ 8 Try.underlying58 hi0 hz0 hz1 hz2 rfl (by omega) rfl (own_empty w3 w3.heap.size 3 1 (Nat.le_refl _)) s.B fr.length s.b (nums fr) rfl (FF.kept ((Keeps.refl (fun _ => False) _).alloc _) (fun _ _ _ _ h => h)) (nums_one _) (by unfold maxLen; omega) (by omega) (by simp) ?_; intro v5 w5 own5 g5 at5; have K5 : Keeps (fun _ => False) w3 w5 := keeps_grown ((Keeps.refl _ w3).alloc _) g5 (fun g h => .inr (Nat.le_of_eq (slice_block h))); have z5 := K5.size; simp only [Nat.zero_add, List.nil_append] at own5; obtain ⟨A5, c5, hv5⟩ := own_shape own5; subst hv5; clear g5 at5) | (at_builtin; refine wpList_append_has rfl (.tmp 32) (.tmp 34) 58 rfl i0 _ 8 Try.underlying58 hi0 hz0 hz1 hz2 rfl (by omega) rfl (own5.alloc _) (some ⟨w5.heap.size, 0, none⟩) 1 1 (nums [i]) rfl (Has.box w5 3 1 1 (nums [i]) rfl (by unfold maxLen; omega)) (nums_one [i]) (by unfold maxLen; omega) (by omega) (Nat.le_trans z5 (by simp)) ?_; intro v6 w6 own6 g6 at6; have K6 : Keeps (fun _ => False) w3 w6 := keeps_grown (K5.alloc _) g6 (fun g h => .inr (own5.lt g h).1); obtain ⟨A6, c6, hv6⟩ := own_shape own6; subst hv6; have B6 := H4.Bl.kept K6 (fun h => h); have b6 := B6.cellAt (i := 4) rfl; have f6 := B6.frozen; clear g6 at6))
    go_ret
    have hlen : (fr ++ [i]).length = fr.length + 1 := by simp
    have hg6 : (Value.slice A6 (fr.length + 1) c6).ownBlock ≠ some p := fun e => by have := (own6.lt p e).1; omega
    have k6 : Keeps (· = p) w3 (w6.setCell ⟨p, 4, none⟩ (.slice A6 (fr.length + 1) c6)) := (show Keeps (· = p) w3 w6 from K6.mono (fun _ _ h => h.elim)).setCell ⟨p, 4, none⟩ (.inl rfl) _
    refine ⟨rfl, ⟨A6, c6, ⟨?_, own_kept H4.I k6 (fun g _ _ hg e => ?_), own_kept H4.G k6 (fun g _ _ hg e => ?_), own_kept H4.V k6 (fun g _ _ hg e => ?_), ?_⟩, ?_⟩, (K4.trans K6 (fun _ _ h => h.elim)).setCell _ (.inl (.inl rfl)) _⟩
    · rw [hlen]; exact B6.set_ 4 _
    · exact type_blk (Has.of_own H4.I) H4.Bl (by decide) (hg.trans (congrArg some e))
    · exact type_blk (Has.of_own H4.G) H4.Bl (by decide) (hg.trans (congrArg some e))
    · exact type_blk (Has.of_own H4.V) H4.Bl (by decide) (hg.trans (congrArg some e))
    · rw [hlen, show nums (fr ++ [i]) = nums fr ++ nums [i] by simp [nums]]
      exact (Has.of_own own6).kept ((keep1 p _).setCell _ (.inl rfl) _) (fun g _ _ hg e => hg6 (hg.trans (congrArg some e)))
    · rintro q (rfl | hq | hq | hq | hq)
      · exact .inl (.inl rfl)
      · exact .inl (.inr (.inl hq))
      · exact .inl (.inr (.inr (.inl hq)))
      · exact .inl (.inr (.inr (.inr (.inl hq))))
      · exact .inr (by have := (own6.lt q ((ob_eq _ _ _).trans hq)).1; omega)

set_option maxRecDepth 100000 in
set_option maxHeartbeats 1000000 in
theorem put_full (p : Nat) (s : Sh) (room : Nat) (ps : List Pl) (v : ByteArray) (w : World) (h : At w p s room ps []) (hr : room = ps.length) (hl : ps.length ≤ 1000) :
    Calls Try.prog 37 #[.pointer (some ⟨p, 0, none⟩), .string v] w fun e w' => e = .returned (.tuple #[.int .i64 0, .int .i64 0, .int .i64 6]) ∧ Keeps (fun _ => False) w w' := by
  have K := Keeps.refl (fun _ => False) w
  have c0 := h.Bl.cellAt (i := 0) rfl
  have c3 := h.Bl.cellAt (i := 3) rfl
  have c4 := h.Bl.cellAt (i := 4) rfl
  rw [hr] at c0
  clear h hr
  go_enter Try.func37, Try.ntmps37
  go_wp2_with fail
  go_quiet (fail)
  go_wp2_with fail
  exact bodyPost_ret (v := .tuple #[.int .i64 0, .int .i64 0, .int .i64 6]) (by simp [results, Try.results37, go_sem]) rfl ⟨rfl, K.drewN _⟩
theorem At.take {w : World} {p room i : Nat} {s : Sh} {ps : List Pl} {fr : List Nat} (h : At w p s room ps (fr ++ [i])) : At (w.setCell ⟨p, 4, none⟩ (.slice s.B fr.length fr.length)) p { s with b := fr.length } room ps fr := by
  have k : Keeps (· = p) w (w.setCell ⟨p, 4, none⟩ (.slice s.B fr.length fr.length)) := (keep1 p w).setCell _ (.inl rfl) _
  have hF : Has w 3 1 (.slice s.B fr.length fr.length) fr.length (nums fr) := by
    refine ⟨by simp [nums], ?_⟩
    rcases h.F.2 with ⟨h0, h1⟩ | ⟨g, off, cap, cur, hv, hnc, hcm, hh, hc⟩
    · simp at h1
    · injection hv with hA _ _
      rw [hA]
      refine .inr ⟨g, off, fr.length, cur, rfl, Nat.le_refl _, ?_, hh, fun j u hu => hc j u ?_⟩
      · simp at hnc; omega
      · have hj := (List.getElem?_eq_some_iff.1 hu).1
        rw [show nums (fr ++ [i]) = nums fr ++ nums [i] by simp [nums], List.getElem?_append_left hj]
        exact hu
  refine ⟨(h.Bl).set_ 4 _, own_kept h.I k (fun g _ _ hg e => ?_), own_kept h.G k (fun g _ _ hg e => ?_), own_kept h.V k (fun g _ _ hg e => ?_), hF.kept k (fun g _ _ hg e => ?_)⟩
  · exact type_blk (Has.of_own h.I) h.Bl (by decide) (hg.trans (congrArg some e))
  · exact type_blk (Has.of_own h.G) h.Bl (by decide) (hg.trans (congrArg some e))
  · exact type_blk (Has.of_own h.V) h.Bl (by decide) (hg.trans (congrArg some e))
  · exact type_blk hF h.Bl (by decide) (hg.trans (congrArg some e))
set_option maxRecDepth 100000 in
set_option maxHeartbeats 2000000 in
theorem put_free (p : Nat) (s : Sh) (room : Nat) (ps : List Pl) (fr : List Nat) (i : Nat) (x : Pl) (v : ByteArray) (w : World) (h : At w p s room ps (fr ++ [i])) (hx : ps[i]? = some x) (hg : 0 ≤ x.g ∧ x.g ≤ 1000000) (hl : ps.length ≤ 1000) (hf : fr.length ≤ 1000) :
    Calls Try.prog 37 #[.pointer (some ⟨p, 0, none⟩), .string v] w fun e w' => e = .returned (.tuple #[.int .i64 (i : Int), .int .i64 (x.g + 1), .int .i64 0]) ∧ (∃ B b, At w' p { s with B := B, b := b } room (ps.set i ⟨v, x.g + 1, true⟩) fr ∧ ob B = ob s.B) ∧ Keeps (Foot p s) w w' := by
  obtain ⟨hg0, hg1⟩ := hg
  have h3 := (List.getElem?_eq_some_iff.1 hx).1
  have HX := Lib.hid hx
  obtain ⟨gb, off, hB, e0⟩ := h.free (i := fr.length) (k := i) (by simp)
  have c4 := h.Bl.cellAt (i := 4) rfl
  obtain ⟨N, hN⟩ : ∃ N, N = (fr ++ [i]).length := ⟨_, rfl⟩
  rw [← hN, hB] at c4
  have hN1 : N = fr.length + 1 := by rw [hN]; simp
  have hw : IntKind.i64.wrap ((N : Int) - 1) = (fr.length : Int) := by rw [IntWalk.i64_in _ (by omega)]; omega
  have i0 : (0 : Int) ≤ (fr.length : Int) := by omega
  have i1 : (fr.length : Int) < (N : Int) := by omega
  have i2 : (0 : Int) < (N : Int) := by omega
  have i3 : 0 < N := by omega
  have hNd : N ≤ s.b := by
    rcases h.F.2 with ⟨h0, h1⟩ | ⟨g, off, cap, cur, hv, hnc, _⟩
    · omega
    · injection hv with _ _ hc; subst hc; rw [hN]; exact hnc
  have hkd : (fr.length : Int) ≤ (s.b : Int) := by omega
  have hkd2 : fr.length ≤ s.b := by omega
  have HH := Lib.hid h
  have fp := h.Bl.frozen
  clear hx h
  go_enter Try.func37, Try.ntmps37
  go_wp2_with fail
  have T := HH.out.take
  have KT : Keeps (Foot p s) w (w.setCell ⟨p, 4, none⟩ (.slice s.B fr.length fr.length)) := (Keeps.refl _ w).setCell _ (.inl (.inl rfl)) _
  rw [hB] at T KT
  clear e0 c4 hw i0 i1 i2 i3 hNd hkd hkd2 fp HH hN hN1
  generalize w.setCell ⟨p, 4, none⟩ (.slice (some ⟨gb, off, Option.none⟩) fr.length fr.length) = w2 at *
  have hs1 : s = { s with B := some ⟨gb, off, none⟩ } := by rw [← hB]
  rw [← hB] at T
  have j0 : (0 : Int) ≤ (i : Int) := by omega
  have j1 : (i : Int) < (ps.length : Int) := by omega
  have c1 := T.Bl.cellAt (i := 1) rfl
  have c3 := T.Bl.cellAt (i := 3) rfl
  obtain ⟨ga, gg, gv, hA, hG, hV, d0, d1, d2⟩ := T.place HX.out
  dsimp only at hA hG hV
  have fv := T.V
  have fi := T.I
  have n1 : ga ≠ gv := fun e => types_ne (Has.of_own fi) (Has.of_own fv) (by decide) (g := ga) (by rw [ob_eq, hA]; rfl) (by rw [ob_eq, hV, e]; rfl)
  have n2 : ga ≠ p := fun e => type_blk (Has.of_own fi) T.Bl (by decide) (by rw [ob_eq, hA, ← e]; rfl)
  have n3 : gv ≠ p := fun e => type_blk (Has.of_own fv) T.Bl (by decide) (by rw [ob_eq, hV, ← e]; rfl)
  have H3 := (T.setOn hA HX.out true).setV hV (i := i) (x := ⟨x.v, x.g, true⟩) (List.getElem?_set_self h3) v
  rw [List.set_set] at H3
  have K3 := (KT.setCell ⟨ga, i, none⟩ (.inl (.inr (.inl (by rw [hA]; rfl)))) (.bool true)).setCell ⟨gv, i, none⟩ (.inl (.inr (.inr (.inr (.inl (by rw [hV]; rfl)))))) (.string v)
  dsimp only at c1 c3 fv fi
  rw [hV] at c3 fv
  rw [hA] at c1 fi
  have fv := fv.frozenAt
  have fi := fi.frozenAt
  have HG := Lib.hid hG
  have H3 := Lib.hid H3
  have K3 := Lib.hid K3
  clear hA hG hV d1 T KT hs1
  go_region
  all_goals
    generalize hw3 : World.drew _ = w3
    have H4 : At w3 p { s with b := fr.length } room (ps.set i ⟨v, x.g, true⟩) fr := by rw [← hw3]; exact H3.out.stay (Keeps.drew (Keeps.refl _ _))
    have K4 : Keeps (Foot p s) w w3 := by rw [← hw3]; exact K3.out.drew
    clear c1 c3 d0 d2 fv fi H3 K3 hw3
    have b2 := H4.Bl.cellAt (i := 2) rfl
    have hx4 : (ps.set i ⟨v, x.g, true⟩)[i]? = some ⟨v, x.g, true⟩ := List.getElem?_set_self h3
    obtain ⟨_, gg', _, _, hG', _, _, b1, _⟩ := H4.place hx4
    dsimp only at hG' b1 b2
    have e5 : gg' = gg := by have := HG.out; rw [hG'] at this; injection this with this; injection this
    subst e5
    have fg := H4.G
    dsimp only at fg
    rw [hG'] at b2 fg
    have n5 : gg' ≠ p := fun e => type_blk (Has.of_own fg) H4.Bl (by decide) (by rw [← e]; rfl)
    have fg := fg.frozenAt
    have H5 := H4.setG (ga := gg') hG' hx4 (x.g + 1)
    rw [List.set_set] at H5
    have K5 := K4.setCell ⟨gg', i, none⟩ (.inl (.inr (.inr (.inl (by rw [hG']; rfl))))) (.int .i64 (x.g + 1))
    rw [List.length_set] at b2
    have a2 := H5.Bl.cellAt (i := 2) rfl
    obtain ⟨_, gg2, _, _, hG2, _, _, a1, _⟩ := H5.place (List.getElem?_set_self h3)
    dsimp only at hG2 a1 a2
    rw [hG'] at a2 hG2
    injection hG2 with hG2
    injection hG2 with hG2
    subst hG2
    rw [List.length_set] at a2
    clear H4 K4
    have H5 := Lib.hid H5
    have K5 := Lib.hid K5
    go_wp2_with fail
    clear b1 b2 fg
    generalize w3.setCell ⟨gg', i, none⟩ (.int .i64 (x.g + 1)) = w5 at *
    go_quiet (fail)
    go_wp2_with fail
    exact bodyPost_ret (v := .tuple #[.int .i64 (i : Int), .int .i64 (x.g + 1), .int .i64 0]) (by simp [results, Try.results37, go_sem]) rfl ⟨rfl, ⟨s.B, fr.length, H5.out.stay ((Keeps.refl _ _).drewN _), rfl⟩, K5.out.drewN _⟩

end RefAr
end Go.Proofs.Ytpfhogbkbodfjab
