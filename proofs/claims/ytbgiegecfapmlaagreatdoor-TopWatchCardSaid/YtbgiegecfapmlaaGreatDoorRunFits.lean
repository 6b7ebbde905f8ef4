/- The runner: fits; conditions: good jobs, the library's tables as its text lays them. -/
import Derived.Test.YtbgiegecfapmlaaGreatDoorRunMem
import Derived.Deep.RegionWith
namespace Go.Proofs.YtbgiegecfapmlaaGreatDoor
open Go.RowKit
set_option linter.unusedVariables false
set_option linter.unusedSimpArgs false
namespace Rob
open Job (jc jv)
section
variable {base : Nat} {w w' : World} {d : Adr} {js : List J} {s : St} {now : Int}
theorem Row.of_own {α : Type} {cf : α → List Value} {sz : Nat} {e : TypeId} {bs n c : Nat} {A : Option Addr} {xs : List α} (hcf : ∀ x, (cf x).length = sz) (h : w.ownsRow bs e sz (.slice A n c) n (xs.flatMap cf)) (hl : xs.length = n) (hm : n ≤ maxLen) : Row cf sz w A n xs := by
  refine ⟨hl, hm, fun hn => ?_⟩
  have hh := Has.of_own h
  obtain ⟨g, off, hA, hc⟩ := hh.at_ hn
  have hlt : g < w.heap.size := by
    have := (h.lt g (by rw [hA]; rfl)).2
    exact this
  refine ⟨g, off, hA, hlt, fun i x hx j v hv => ?_⟩
  have := hc _ _ (flat_at hcf hx hv)
  rwa [← Nat.add_assoc] at this
theorem lefts_len (n : Nat) : (lefts js s n).length ≤ n := by
  induction n with
  | zero => simp [lefts]
  | succ n ih => simp only [lefts, List.length_append]; split <;> simp <;> omega
set_option maxRecDepth 100000 in
set_option maxHeartbeats 4000000 in
theorem fits_run (T : Tabs w) (h : At base w d js s now) (hg : Goods js) (hs : Small js s now) (hc : ∀ i, i < js.length → opn s i 1 = true → ranAt s i ≤ chAt js i) {t : Int} (ht : 0 ≤ t ∧ t ≤ 100000) :
    Calls Tryz.prog 66 #[.pointer (some ⟨d.p, 0, none⟩), .int .i64 t] w fun e w' => e = .returned (.bool (fits js s t)) ∧ Below w.heap.size w w' := by
  have b0 := h.B.cellAt (i := 0) rfl
  have hn12 := h.n12
  have H := Lib.hid h
  have HT := Lib.hid T
  have HG := Lib.hid hg
  have HS := Lib.hid hs
  have HTT := Lib.hid ht
  have HCH := Lib.hid hc
  clear h T hg hs ht hc
  obtain ⟨i0, hi, hz0, hz1, hz2⟩ := Edf.infoL
  go_enter Tryz.func66, Tryz.ntmps66
  go_wp2_with fail
  go_loopw [5, 13] (fun v i wr => ∃ k : Nat, k ≤ js.length ∧ i = .int .i64 (k : Int) ∧ Below w.heap.size w wr ∧ wr.ownsRow w.heap.size 207 2 v (lefts js s k).length ((lefts js s k).flatMap Edf.lc)) (fun _ i _ => js.length - (intOf i).toNat)
  case atStart => exact ⟨0, by omega, rfl, Below.refl _ _, ⟨rfl, .inl ⟨rfl, rfl⟩⟩⟩
  case round =>
    clear b0
    obtain ⟨k, hk, rfl, B, O⟩ := hrel
    by_cases hlt : k < js.length
    · have hlti : (k : Int) < (js.length : Int) := by omega
      obtain ⟨b, off, x, hA, hx, hb, c0, c1, c2, c3, c4, c5, c6, c7⟩ := Job.cells8 (H.out.down B).JR hlt
      have hi0 : (0 : Int) ≤ (k : Int) := by omega
      have hi1 : (k : Int) + 1 ≤ 9223372036854775807 := by omega
      have X := Job.Box.of (Blk.new wr 36 (jc x))
      have B2 := B.alloc B.size (.cells (jc x).toArray 36)
      have h2 := H.out.down B2
      have O2 := own_below O ((Below.refl wr.heap.size wr).alloc (Nat.le_refl _) (.cells (jc x).toArray 36))
      have hlf : lefts js s (k + 1) = lefts js s k ++ if opn s k 1 = true then [⟨dlAt js k, need js s k⟩] else [] := rfl
      rw [dl_at hx] at hlf
      have hll := lefts_len (js := js) (s := s) k
      unfold jc at X B2 h2 O2
      obtain ⟨x0, x1, x2, x3, x4, x5, x6, x7⟩ := X
      rw [hA]
      have hgo := own_block_lt O
      obtain ⟨A5, c5', hv5⟩ := own_shape O2
      subst hv5
      go_upto_region 5 with fail
      generalize wr.alloc (.cells #[.string x.nm, .int .i64 x.rel, .int .i64 x.dl, .int .i64 x.bud, .int .i64 x.act, .int .i64 x.val, .int .i64 x.cln, .bool x.hard] 36) = W1 at *
      have OI := open_is h2 hlt 1
      have HLF := Lib.hid hlf
      have HO2 := Lib.hid O2
      have HB2 := Lib.hid B2
      have H2 := Lib.hid h2
      have HLL := Lib.hid hll
      have HGO := Lib.hid hgo
      clear hlf O O2 B B2 h2 hll hgo c0 c1 c2 c3 c4 c5 c6 c7 x0 x1 x3 x4 x5 x6 x7 hx hb
      cases ho : opn s k 1 with
      | false =>
        rw [ho] at OI
        have F : Hid (lefts js s (k + 1) = lefts js s k) := Lib.hid (by rw [HLF.out, if_neg (by rw [ho]; simp)]; simp)
        clear ho
        go_wp2_with (go_at_call 33; refine OI.mono ?_; rintro e w2 ⟨rfl, rfl⟩)
        go_roundw
        case rel => exact ⟨k + 1, by omega, by simp, HB2.out, by rw [F.out]; exact HO2.out⟩
        case measure => simp [intOf]; omega
      | true =>
        rw [ho] at OI
        have F : Hid (lefts js s (k + 1) = lefts js s k ++ [⟨x.dl, need js s k⟩]) := Lib.hid (by rw [HLF.out, if_pos ho])
        clear ho
        go_upto_region 6 with (go_at_call 33; refine OI.mono ?_; rintro e w2 ⟨rfl, rfl⟩)
        have NI := need_is (HT.out.below (HB2.out.trans ((below_drew w2).mono HB2.out.size))) (H2.out.down (below_drew w2)) HG.out hlt (HS.out.2 k hlt)
        have hsz2 := Lib.hid HB2.out.size
        generalize need js s k = N at *
        refine wp_region_held_drew (S := (fun W => W.cell? ⟨wr.heap.size, 2, none⟩ = some (.int .i64 x.dl))) (by kernel_rfl) x2 (fun hHeld => ?_)
        refine wpAnyH_take (i := 0) (oi := ⟨some 21, _, _, _, _, _⟩) (v := ?_) rfl (by kernel_rfl) (by kernel_rfl) (by kernel_rfl) (fun _ _ _ h => h) (Or.inl ⟨by kernel_rfl, ?_⟩) (by assumption) ?_
        rotate_left
        · intro w hSw; (try dsimp only at hSw); go_simp; try with_reducible rfl
        rotate_left
        try simp only [Act.put, List.setIfInBounds_toArray, List.set_cons_zero, List.set_cons_succ]
        refine wpAnyH_take (i := 1) (oi := ⟨some 22, _, _, _, _, _⟩) (v := ?_) rfl (by kernel_rfl) (by kernel_rfl) (by kernel_rfl) (fun _ _ _ h => h) (Or.inl ⟨by kernel_rfl, ?_⟩) (by assumption) ?_
        rotate_left
        · intro w hSw; (try dsimp only at hSw); go_simp; try with_reducible rfl
        rotate_left
        try simp only [Act.put, List.setIfInBounds_toArray, List.set_cons_zero, List.set_cons_succ]
        refine wpAnyH_take (i := 3) (oi := ⟨some 24, _, _, _, _, _⟩) (v := ?_) rfl (by kernel_rfl) (by kernel_rfl) (by kernel_rfl) (fun _ _ _ h => h) (Or.inl ⟨by kernel_rfl, ?_⟩) (by assumption) ?_
        rotate_left
        · intro w hSw; (try dsimp only at hSw); go_simp; try with_reducible rfl
        rotate_left
        try simp only [Act.put, List.setIfInBounds_toArray, List.set_cons_zero, List.set_cons_succ]
        refine wpAnyH_take (i := 4) (oi := ⟨some 25, _, _, _, _, _⟩) (v := ?_) rfl (by kernel_rfl) (by kernel_rfl) (by kernel_rfl) (fun _ _ _ h => h) (Or.inl ⟨by kernel_rfl, ?_⟩) (by assumption) ?_
        rotate_left
        · intro w hSw; (try dsimp only at hSw); go_simp; try with_reducible rfl
        rotate_left
        try simp only [Act.put, List.setIfInBounds_toArray, List.set_cons_zero, List.set_cons_succ]
        refine wpAnyH_take (i := 2) (oi := ⟨some 23, _, _, _, _, _⟩) (v := ?_) rfl (by kernel_rfl) (by kernel_rfl) (by kernel_rfl) (fun _ _ _ h => h) (Or.inl ⟨by kernel_rfl, ?_⟩) (by assumption) ?_
        rotate_left
        · intro w hSw; (try dsimp only at hSw); go_simp; try with_reducible rfl
        rotate_left
        try simp only [Act.put, List.setIfInBounds_toArray, List.set_cons_zero, List.set_cons_succ]
        refine wpAnyH_ready (rs := [5]) (by kernel_rfl) (by simp) ?_
        refine AllReadyH.cons (o := ⟨some 26, _, _, _, _, _⟩) rfl (fun K hK => ?_) AllReadyH.nil
        go_simp
        refine NI.mono ?_
        rintro e w3 ⟨rfl, hb⟩
        have y2 := (hb.cell (World.block_lt_of_cell? _ _ x2)).trans x2
        have hb2 := (below_drew w2).trans (hb.mono (Nat.le_refl _))
        have O3 := own_below HO2.out hb2
        have B3 := HB2.out.trans (hb2.mono hsz2.out)
        have H3x := (hb.mono (Nat.le_refl _)).size
        clear hb hb2 NI
        have hll3 := HLL.out
        go_wp2_with fail
        refine hK.out _ _ y2 (fun hHeld => ?_)
        clear hK K
        try simp only [Act.put, List.setIfInBounds_toArray, List.set_cons_zero, List.set_cons_succ]
        refine wpAnyH_take (i := 6) (oi := ⟨some 27, _, _, _, _, _⟩) (v := ?_) rfl (by kernel_rfl) (by kernel_rfl) (by kernel_rfl) (fun _ _ _ h => h) (Or.inl ⟨by kernel_rfl, ?_⟩) (by assumption) ?_
        rotate_left
        · intro w hSw; (try dsimp only at hSw); go_simp; try with_reducible rfl
        rotate_left
        try simp only [Act.put, List.setIfInBounds_toArray, List.set_cons_zero, List.set_cons_succ]
        refine wpAnyH_ready (rs := [7]) (by kernel_rfl) (by simp) ?_
        refine AllReadyH.cons (o := ⟨some 28, _, _, _, _, _⟩) rfl (fun K hK => ?_) AllReadyH.nil
        go_simp
        have y3 := ((Below.refl w3.heap.size w3).alloc (Nat.le_refl _) (.cells #[.int .i64 x.dl, .int .i64 N] 207)).cell (World.block_lt_of_cell? _ _ y2) |>.trans y2
        have O4 := own_below O3 ((Below.refl w3.heap.size w3).alloc (Nat.le_refl _) (.cells #[.int .i64 x.dl, .int .i64 N] 207))
        have X4 := Has.box w3 207 2 1 (Edf.lc ⟨x.dl, N⟩) rfl (by unfold maxLen; omega)
        have B4 := B3.alloc B3.size (.cells #[.int .i64 x.dl, .int .i64 N] 207)
        unfold Edf.lc at X4
        generalize w3.alloc (.cells #[.int .i64 x.dl, .int .i64 N] 207) = w4 at *
        refine hK.out _ _ y3 (fun hHeld => ?_)
        clear hK K
        try simp only [Act.put, List.setIfInBounds_toArray, List.set_cons_zero, List.set_cons_succ]
        refine wpAnyH_ready (rs := [8]) (by kernel_rfl) (by simp) ?_
        refine AllReadyH.cons (o := ⟨some 29, _, _, _, _, _⟩) rfl (fun K hK => ?_) AllReadyH.nil
        refine step_append_has rfl (.tmp 21) (.tmp 28) 205 rfl i0 _ 16 Tryz.underlying205 hi hz0 hz1 hz2 rfl (by decide) (by simp [Act.eval, Act.put]) O4 _ _ _ (Edf.lc ⟨x.dl, N⟩) (by simp [Act.eval, Act.put]) X4 (Edf.one_cell _) (by unfold maxLen; omega) (by omega) (by have := B4.size; simp; omega) ?_
        intro v5 w5 own5 g5 at5
        have hrow : ∀ b, (Value.slice A5 (lefts js s k).length c5').ownBlock = some b → b < wr.heap.size ∧ w.heap.size ≤ b := fun b hb => ⟨(HGO.out b (ob_mem.2 hb)).2, (HGO.out b (ob_mem.2 hb)).1⟩
        have hxl : wr.heap.size < w4.heap.size := World.block_lt_of_cell? _ _ y3
        have y5 : w5.cell? ⟨wr.heap.size, 2, none⟩ = some (.int .i64 x.dl) := by
          rw [World.cell?_of_block (a := ⟨wr.heap.size, 2, none⟩) (g5.block wr.heap.size hxl (fun e => by have := (hrow _ e.symm).1; omega))]; exact y3
        have B5 := below_keeps B4 (keeps_grown (Keeps.refl (fun b => (Value.slice A5 (lefts js s k).length c5').ownBlock = some b) w4) g5 (fun g hg => .inl hg)) B4.size (fun b hb => (hrow b hb).2)
        have OWN5 := Lib.hid own5
        have HB5 := Lib.hid B5
        clear own5 g5 at5 B5 hrow hxl B4 O4 X4
        refine hK.out _ _ y5 (fun hHeld => ?_)
        clear hK K
        try simp only [Act.put, List.setIfInBounds_toArray, List.set_cons_zero, List.set_cons_succ]
        refine wpAnyH_take (i := 9) (oi := ⟨some 5, _, _, _, _, _⟩) (v := ?_) rfl (by kernel_rfl) (by kernel_rfl) (by kernel_rfl) (fun _ _ _ h => h) (Or.inl ⟨by kernel_rfl, ?_⟩) (by assumption) ?_
        rotate_left
        · intro w hSw; (try dsimp only at hSw); go_simp; try with_reducible rfl
        rotate_left
        try simp only [Act.put, List.setIfInBounds_toArray, List.set_cons_zero, List.set_cons_succ]
        refine wpAnyH_done (by kernel_rfl) ?_ _
        go_wp2_with fail
        go_roundw
        case rel => exact ⟨k + 1, by omega, by simp, HB5.out, by rw [F.out, List.length_append, List.flatMap_append]; exact OWN5.out⟩
        case measure => simp [intOf]; omega
    · have hlti : ¬ (k : Int) < (js.length : Int) := by omega
      have hkn : k = js.length := by omega
      subst hkn
      have hll := lefts_len (js := js) (s := s) js.length
      obtain ⟨A5, c5', hv5⟩ := own_shape O
      subst hv5
      have R := Row.of_own Edf.lc_len O rfl (by unfold maxLen; omega)
      have hIn : ∀ x ∈ lefts js s js.length, x.In ∧ 0 ≤ x.n := by
        intro x hx
        obtain ⟨i, hi, ho, rfl⟩ := (lefts_mem js s _ _).1 hx
        have hgi := Job.good_ok (HG.out js[i] (List.getElem_mem hi)).1
        have e1 : dlAt js i = js[i].dl := dl_at (List.getElem?_eq_getElem hi)
        have e2 : need js s i = js[i].bud + js[i].cln - ranAt s i := by unfold need chAt; rw [List.getElem?_eq_getElem hi]; rfl
        have e3 : chAt js i = js[i].bud + js[i].cln := by unfold chAt; rw [List.getElem?_eq_getElem hi]; rfl
        have hr := HS.out.2 i hi
        have hcc := HCH.out i hi ho
        have := hgi.bud; have := hgi.cln; have := hgi.rel; have := hgi.dl; have := hgi.most
        refine ⟨⟨?_, ?_⟩, ?_⟩
        · show Edf.In (dlAt js i)
          unfold Edf.In; omega
        · show Edf.In (need js s i)
          unfold Edf.In; omega
        · show 0 ≤ need js s i
          omega
      have C := Edf.fits_is (c := c5') R (fun x hx => (hIn x hx).1) (fun x hx => (hIn x hx).2) (by omega) (now := t) (by have := HTT.out; unfold Edf.In; omega) (fits_ok js s t)
      clear R hIn O hll
      go_wp2_with fail
      refine C.mono ?_
      rintro e w2 ⟨rfl, hb⟩
      go_wp2_with fail
      go_ret
      exact ⟨rfl, B.trans (hb.mono B.size)⟩
end
end Rob
end Go.Proofs.YtbgiegecfapmlaaGreatDoor
