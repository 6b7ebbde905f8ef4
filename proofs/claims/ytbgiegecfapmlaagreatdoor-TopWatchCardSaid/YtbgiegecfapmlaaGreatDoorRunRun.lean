/- The runner: run, one tick; conditions: good jobs, the library's tables as its text lays them. -/
import Derived.Test.YtbgiegecfapmlaaGreatDoorRunAgain
namespace Go.Proofs.YtbgiegecfapmlaaGreatDoor
open Go.RowKit
set_option linter.unusedVariables false
set_option linter.unusedSimpArgs false
namespace Rob
open Job (jc jv)
section
variable {base : Nat} {w0 w w' : World} {d : Adr} {js : List J} {s : St} {now : Int} {a : Nat}
/-- What 'run' reads behind its job's box. -/
structure RunS (d : Adr) (n k X : Nat) (x : J) (r : Int) (W : World) : Prop where
  g : W.cell? ⟨d.p, 2, none⟩ = some (.slice (some ⟨d.gr, 0, none⟩) n d.cr)
  r : W.cell? ⟨d.gr, k, none⟩ = some (.int .i64 r)
  b : Job.Box W X x
theorem RunS.down {n k X : Nat} {x : J} {r : Int} (h : RunS d n k X x r w) (hb : Below w.heap.size w w') : RunS d n k X x r w' :=
  ⟨(hb.cell (World.block_lt_of_cell? _ _ h.g)).trans h.g, (hb.cell (World.block_lt_of_cell? _ _ h.r)).trans h.r, h.b.below hb⟩
set_option maxRecDepth 100000 in
set_option maxHeartbeats 8000000 in
theorem run_is (T : Tabs w0) (hB : Below w0.heap.size w0 w) (h : At w0.heap.size w d js s now) (hg : Goods js) (hnow : 0 ≤ now ∧ now ≤ 90000) (hbn : Bnd js a s) (ha : a ≤ 3000000) :
    Calls Tryz.prog 32 #[.pointer (some ⟨d.p, 0, none⟩)] w fun e w' => e = .returned (.tuple #[]) ∧ ∃ tv av, At w0.heap.size w' { d with tv := tv, av := av } js (run js now s) now ∧ Below w0.heap.size w0 w' := by
  obtain ⟨i0, hI0, hz0, hz1, hz2⟩ := infoI
  have CH := head_is h
  have hb1 := head_bd (js := js) s js.length
  have HST : Hid (run js now s = if head js s js.length < 0 then { s with tr := s.tr ++ [head js s js.length] }
      else fin js now (work1 { s with tr := s.tr ++ [head js s js.length] } (head js s js.length).toNat) (head js s js.length).toNat) := Lib.hid rfl
  have HOP := Lib.hid (fun hk => (headp_is (js := js) s js.length hk).1)
  obtain ⟨x0, hx0⟩ : ∃ x0, head js s js.length = x0 := ⟨_, rfl⟩
  rw [hx0] at CH hb1 HST HOP
  obtain ⟨AT, cT, htv⟩ := own_shape h.T
  have H := Lib.hid h
  have HB := Lib.hid hB
  have HT := Lib.hid T
  have HG := Lib.hid hg
  have HN := Lib.hid hnow
  have HBN := Lib.hid hbn
  have HA := Lib.hid ha
  have HTV := Lib.hid htv
  have HB1 := Lib.hid hb1
  have hn12 := h.n12
  clear h hB T hg hnow hbn ha htv hb1 hx0
  go_enter Tryz.func32, Tryz.ntmps32
  go_upto_region 1 with (go_at_call 68; refine CH.mono ?_; rintro e w2 ⟨rfl, hb⟩)
  have h2 := H.out.down hb
  have B2 := HB.out.trans (hb.mono HB.out.size)
  have b3 : w2.cell? ⟨d.p, 3, none⟩ = some (.slice AT s.tr.length cT) := by have := h2.B.cellAt (i := 3) rfl; rw [HTV.out] at this; exact this
  have O3 : (w2.alloc (.cells #[.int .i64 x0] 3)).ownsRow w0.heap.size 3 1 (.slice AT s.tr.length cT) s.tr.length (s.tr.map iv) := by
    have := own_below h2.T ((Below.refl w2.heap.size w2).alloc (Nat.le_refl _) (.cells #[.int .i64 x0] 3))
    rw [HTV.out] at this
    exact this
  have hsz3 := Nat.le_trans B2.size (show w2.heap.size ≤ (w2.alloc (.cells #[.int .i64 x0] 3)).heap.size by simp)
  have hlen := HBN.out.tr
  have hha := HA.out
  have H2 := Lib.hid h2
  have HB2 := Lib.hid B2
  clear hb CH H HB h2 B2
  have hnp := Lib.hid (fun e : (Value.slice AT s.tr.length cT).ownBlock = some d.p => (H2.out.apt.o d.p (by simp only [List.mem_append]; rw [HTV.out]; exact .inl (.inl (.inl (ob_mem.2 e))))).1 rfl)
  go_upto_region 2 with (at_builtin; refine wpList_append_has rfl (.tmp 11) (.tmp 13) 23 rfl i0 _ 8 Tryz.underlying23 hI0 hz0 hz1 hz2 rfl (by decide) rfl O3 (some ⟨w2.heap.size, 0, none⟩) 1 1 [.int .i64 x0] rfl (Has.box w2 3 1 1 [.int .i64 x0] rfl (by unfold maxLen; omega)) (iv_one [x0]) (by unfold maxLen; omega) (by omega) hsz3 ?_; intro v6 w6 own6 g6 at6; have BP6 := (H2.out.B.alloc (.cells #[.int .i64 x0] 3)).grown g6 hnp.out; have f6 := BP6.frozen; have d6 := BP6.cellAt (i := 3) rfl; obtain ⟨A6, c6, hv6⟩ := own_shape own6; subst hv6; have OWN6 := Lib.hid own6; have G6 := Lib.hid g6; have AT6 := Lib.hid at6; have HP6 := Lib.hid BP6; clear own6 g6 at6 BP6 O3)
  have K6 : Keeps (Turn d.p d.tv) w2 w6 := keeps_grown ((Keeps.refl _ w2).alloc _) G6.out (fun g hg => .inl (.inr (by rw [HTV.out]; exact hg)))
  have K7 := K6.setCell ⟨d.p, 3, none⟩ (.inl (show Turn _ _ d.p from .inl rfl)) (.slice A6 (s.tr.length + 1) c6)
  have hp2 : d.p < w2.heap.size := H2.out.lt d.p (by simp [Adr.blocks])
  have hne6 : (Value.slice A6 (s.tr.length + 1) c6).ownBlock ≠ some d.p := by
    rcases AT6.out with e | e
    · rw [e]; exact hnp.out
    · rw [e]; intro e2
      have := Option.some.inj e2
      simp at this
      omega
  have hS := own_kept OWN6.out ((keep1 d.p w6).setCell ⟨d.p, 3, none⟩ (.inl rfl) (.slice A6 (s.tr.length + 1) c6)) (fun g _ _ hg e => hne6 (by rw [hg, e]))
  have hS' : (w6.setCell ⟨d.p, 3, none⟩ (.slice A6 (s.tr.length + 1) c6)).ownsRow w0.heap.size 3 1 (.slice A6 (s.tr.length + 1) c6) (s.tr ++ [x0]).length ((s.tr ++ [x0]).map iv) := by
    rw [List.length_append, List.map_append]; exact hS
  have h3 := H2.out.trs HB2.out.size K7 (Fresh.of (by rw [HTV.out]; exact AT6.out) (by simp)) (HP6.out.set_ 3 _) hS'
  have B3 := below_keeps HB2.out K7 HB2.out.size (fun b hb => by
    rcases hb with rfl | hb
    · exact H2.out.ge _ (by simp [Adr.blocks])
    · exact H2.out.ge b (by simp only [Adr.blocks, List.mem_cons, List.mem_append]; exact .inr (.inr (.inr (.inr (.inl (.inl (.inl (ob_mem.2 hb)))))))))
  have bn3 : Bnd js (a + 1) { s with tr := s.tr ++ [x0] } := ⟨⟨HBN.out.len.is, HBN.out.len.ran, HBN.out.len.fs⟩, HBN.out.ran, HBN.out.ch, HBN.out.shs, by simp; omega, by have := HBN.out.sh; show s.sh.length ≤ _; omega, by have := HBN.out.ag; show s.ag.length ≤ _; omega⟩
  clear K6 K7 hp2 hne6 hS hS' OWN6 G6 AT6 HP6 f6 d6 b3 hsz3 hlen hha hnp H2 HB2
  generalize w6.setCell ⟨d.p, 3, none⟩ (.slice A6 (s.tr.length + 1) c6) = w3 at *
  generalize Value.slice A6 (s.tr.length + 1) c6 = tv at *
  have hb1 := HB1.out
  by_cases hneg : x0 < 0
  · have hm1 : x0 = -1 := by omega
    have F : Hid (run js now s = { s with tr := s.tr ++ [x0] }) := Lib.hid (by rw [HST.out, if_pos hneg])
    have H3 := Lib.hid h3
    have HB3 := Lib.hid B3
    clear h3 B3 bn3 HST hb1 hneg HOP
    subst hm1
    go_wp2_with fail
    first | go_ret | (refine bodyPost_ret (v := .tuple #[]) (results_none rfl _ _ _) rfl ?_) | (simp only [Exit.inBlock, Exit.then]; refine bodyPost_ret (results_none rfl _ _ _) rfl ?_)
    first | exact ⟨rfl, tv, d.av, by rw [F.out]; exact H3.out, HB3.out⟩ | exact ⟨rfl, ⟨tv, d.av, by rw [F.out]; exact H3.out⟩, HB3.out⟩
  · obtain ⟨k, rfl⟩ := Int.eq_ofNat_of_zero_le (show 0 ≤ x0 by omega)
    have hk : k < js.length := by omega
    have hop := HOP.out (by omega)
    rw [Int.toNat_natCast] at hop
    have F : Hid (run js now s = fin js now (work1 { s with tr := s.tr ++ [(k : Int)] } k) k) := Lib.hid (by rw [HST.out, if_neg hneg, Int.toNat_natCast])
    generalize hs1 : ({ s with tr := s.tr ++ [(k : Int)] } : St) = s1 at *
    have hop1 : kdAt s1 k = 0 := by rw [← hs1]; exact (opn_eq.1 hop).2
    clear hs1 HST HOP hb1 hneg hop
    obtain ⟨bn4, bn5⟩ := bn3.worked HG.out.oks hk hop1
    have hrr := bn3.ran k hk
    have b2 : w3.cell? ⟨d.p, 2, none⟩ = some (.slice (some ⟨d.gr, 0, none⟩) js.length d.cr) := h3.B.cellAt (i := 2) rfl
    have cr := h3.R.cellAt (ran_get h3 hk)
    have fr := h3.R.frozen
    obtain ⟨h4, k4⟩ := h3.rset hk (ranAt s1 k + 1)
    have B4 := below_keeps B3 k4 B3.size (fun b hb => by rw [hb]; exact h3.ge _ (by simp [Adr.blocks]))
    have h4w : At w0.heap.size (w3.setCell ⟨d.gr, k, none⟩ (.int .i64 (ranAt s1 k + 1))) { d with tv := tv } js (work1 s1 k) now := h4
    have hw1 : wrap64 (ranAt s1 k + 1) = ranAt s1 k + 1 := by unfold wrap64; omega
    have hk0 : (0 : Int) ≤ (k : Int) := by omega
    have hk1 : (k : Int) < (js.length : Int) := by omega
    have hkm : ((k : Int) == -1) = false := by simp <;> omega
    have hkm2 : ¬ (k : Int) = -1 := by omega
    have hr1 : ranAt (work1 s1 k) k = ranAt s1 k + 1 := by rw [ranAt_work _ _ _ (by rw [bn3.len.ran]; exact hk), if_pos rfl]
    have HR1 := Lib.hid hr1
    have H4 := Lib.hid h4w
    have HB4 := Lib.hid B4
    have HBN4 := Lib.hid bn4
    have HBN5 := Lib.hid bn5
    have HK := Lib.hid hk
    clear h3 h4 h4w k4 B4 B3 bn3 bn4 bn5 hop1 hk hr1
    generalize ranAt s1 k = r at *
    go_upto_region 4 with fail
    generalize w3.setCell ⟨d.gr, k, none⟩ (.int .i64 (r + 1)) = w4 at *
    clear b2 cr fr
    obtain ⟨b, off, x, hA, hx, hbl, c0, c1, c2, c3, c4, c5, c6', c7⟩ := Job.cells8 H4.out.JR HK.out
    have b0 : w4.cell? ⟨d.p, 0, none⟩ = some (.slice d.Aj js.length d.cj) := H4.out.B.cellAt (i := 0) rfl
    have hA' : d.Aj = some ⟨b, off, none⟩ := hA
    rw [hA'] at b0
    have X := Job.Box.of (Blk.new w4 36 (jc x))
    have ba := (Below.refl w4.heap.size w4).alloc (Nat.le_refl _) (.cells (jc x).toArray 36)
    have h5 := H4.out.down ba
    have B5 := HB4.out.trans (ba.mono HB4.out.size)
    have hgx := HG.out x (List.mem_of_getElem? hx)
    have hwk : Job.work x = workAt js k := by unfold Job.work; rw [if_pos hgx.1]; unfold workAt; rw [hx]; rfl
    have hbd : budAt js k = x.bud := by unfold budAt; rw [hx]; rfl
    have hac : actAt js k = x.act := by unfold actAt; rw [hx]; rfl
    unfold jc at X ba h5 B5
    have g5 := h5.B.cellAt (i := 2) rfl
    have r5 := h5.R.cellAt (ran_get h5 HK.out)
    rw [HR1.out] at r5
    have H5 := Lib.hid h5
    have HB5 := Lib.hid B5
    have HX := Lib.hid X
    have HGX := Lib.hid hgx
    have F2 : Hid (fin js now (work1 s1 k) k = if r + 1 < workAt js k then work1 s1 k else if x.bud < x.act then say (work1 s1 k) k 2 (now + 1) else if x.act < x.bud then again js now (say (work1 s1 k) k 1 (now + 1)) else say (work1 s1 k) k 1 (now + 1)) := Lib.hid (by unfold fin; rw [HR1.out, hbd, hac])
    clear h5 B5 hA hA' hx hbl ba X hgx hbd hac
    go_upto_region 8 with fail
    simp only [List.toArray] at g5 r5
    generalize w4.alloc (.cells #[.string x.nm, .int .i64 x.rel, .int .i64 x.dl, .int .i64 x.bud, .int .i64 x.act, .int .i64 x.val, .int .i64 x.cln, .bool x.hard] 36) = w5 at *
    generalize w4.heap.size = X at *
    clear c0 c1 c2 c3 c4 c5 c6' c7 b0
    have RS : RunS d js.length k X x (r + 1) w5 := ⟨g5, r5, HX.out⟩
    have HRS := Lib.hid (fun W (hb : Below w5.heap.size w5 W) => RS.down hb)
    obtain ⟨x0, x1, x2, x3, x4, x5, x6, x7⟩ := HX.out
    have WC := Job.work_is x w5.drew (HT.out.below (HB5.out.trans ((below_drew w5).mono HB5.out.size))) HGX.out.2
    rw [hwk] at WC
    generalize workAt js k = wk at *
    unfold jv at WC
    clear RS hwk
    by_cases hw : r + 1 < wk
    · have F3 : Hid (run js now s = work1 s1 k) := Lib.hid (by rw [F.out, F2.out, if_pos hw])
      have hwd : decide (r + 1 < wk) = true := decide_eq_true hw
      go_region_held3 (fun W => W.cell? ⟨d.p, 2, none⟩ = some (.slice (some ⟨d.gr, 0, none⟩) js.length d.cr) ∧ W.cell? ⟨d.gr, k, none⟩ = some (.int .i64 (r + 1)) ∧ W.cell? ⟨X, 0, none⟩ = some (.string x.nm) ∧ W.cell? ⟨X, 1, none⟩ = some (.int .i64 x.rel) ∧ W.cell? ⟨X, 2, none⟩ = some (.int .i64 x.dl) ∧ W.cell? ⟨X, 3, none⟩ = some (.int .i64 x.bud) ∧ W.cell? ⟨X, 4, none⟩ = some (.int .i64 x.act) ∧ W.cell? ⟨X, 5, none⟩ = some (.int .i64 x.val) ∧ W.cell? ⟨X, 6, none⟩ = some (.int .i64 x.cln) ∧ W.cell? ⟨X, 7, none⟩ = some (.bool x.hard)) (first | exact ⟨g5, r5, x0, x1, x2, x3, x4, x5, x6, x7⟩ | exact ⟨Y.g, Y.r, Y.b.c0, Y.b.c1, Y.b.c2, Y.b.c3, Y.b.c4, Y.b.c5, Y.b.c6, Y.b.c7⟩) (first | (go_at_call 69; refine WC.mono ?_; rintro e w6 ⟨rfl, hb⟩; have hb5 := (below_drew w5).trans (hb.mono (Nat.le_refl _)); have Y := HRS.out _ hb5))
      have h6 := Lib.hid (H5.out.down hb5)
      have B6 := Lib.hid (HB5.out.trans (hb5.mono HB5.out.size))
      clear Y hb hb5 WC HRS g5 r5 x0 x1 x2 x3 x4 x5 x6 x7
      go_wp2_with fail
      first | go_ret | go_end0 | (refine bodyPost_ret (v := .tuple #[]) (results_none rfl _ _ _) rfl ?_) | (simp only [Exit.inBlock, Exit.then]; refine bodyPost_ret (results_none rfl _ _ _) rfl ?_)
      first | exact ⟨rfl, tv, d.av, by rw [F3.out]; exact h6.out, B6.out⟩ | exact ⟨rfl, ⟨tv, d.av, by rw [F3.out]; exact h6.out⟩, B6.out⟩
    · have hwd : decide (r + 1 < wk) = false := decide_eq_false hw
      go_region_held3 (fun W => W.cell? ⟨d.p, 2, none⟩ = some (.slice (some ⟨d.gr, 0, none⟩) js.length d.cr) ∧ W.cell? ⟨d.gr, k, none⟩ = some (.int .i64 (r + 1)) ∧ W.cell? ⟨X, 0, none⟩ = some (.string x.nm) ∧ W.cell? ⟨X, 1, none⟩ = some (.int .i64 x.rel) ∧ W.cell? ⟨X, 2, none⟩ = some (.int .i64 x.dl) ∧ W.cell? ⟨X, 3, none⟩ = some (.int .i64 x.bud) ∧ W.cell? ⟨X, 4, none⟩ = some (.int .i64 x.act) ∧ W.cell? ⟨X, 5, none⟩ = some (.int .i64 x.val) ∧ W.cell? ⟨X, 6, none⟩ = some (.int .i64 x.cln) ∧ W.cell? ⟨X, 7, none⟩ = some (.bool x.hard)) (first | exact ⟨g5, r5, x0, x1, x2, x3, x4, x5, x6, x7⟩ | exact ⟨Y.g, Y.r, Y.b.c0, Y.b.c1, Y.b.c2, Y.b.c3, Y.b.c4, Y.b.c5, Y.b.c6, Y.b.c7⟩) (first | (go_at_call 69; refine WC.mono ?_; rintro e w6 ⟨rfl, hb⟩; have hb5 := (below_drew w5).trans (hb.mono (Nat.le_refl _)); have Y := HRS.out _ hb5))
      have h6 := H5.out.down hb5
      have B6 := HB5.out.trans (hb5.mono HB5.out.size)
      obtain ⟨y0, y1, y2, y3, y4, y5, y6, y7⟩ := Y.b
      have CR := Job.runs_is x w6
      unfold jv at CR
      have HY := Lib.hid Y.b
      have H6 := Lib.hid h6
      have HB6 := Lib.hid B6
      clear Y hb hb5 WC HRS g5 r5 x0 x1 x2 x3 x4 x5 x6 x7 h6 B6 HX H5 HB5
      by_cases hab : x.act ≤ x.bud
      · rw [decide_eq_true hab] at CR
        go_upto_region 5 with (go_at_call 70; refine CR.mono ?_; rintro e w7 ⟨rfl, hb7⟩)
        have h7 := H6.out.down hb7
        have B7 := HB6.out.trans (hb7.mono HB6.out.size)
        have SI := say_is h7 HK.out 1 1 (by have := HN.out; omega)
        have hY7 := HY.out.below hb7
        have hgf := Lib.hid (h7.ge d.gf (by simp [Adr.blocks]))
        have HXF := Lib.hid (fun e : X = d.gf => (show False by
          have h1 := h7.F
          have h2 := hY7.c0
          rw [e] at h2
          have h3 := h1.cell 0
          rw [h2] at h3
          cases hfs : (work1 s1 k).fs with
          | nil => rw [hfs] at h3; cases h3
          | cons f l => rw [hfs] at h3; simp [fc] at h3))
        have HY7 := Lib.hid hY7
        have HB7 := Lib.hid B7
        clear CR hb7 h7 B7 hY7 H6 HB6 HY y0 y1 y2 y3 y4 y5 y6 y7
        go_upto_region 6 with (go_at_call 34; refine SI.mono ?_; rintro e w8 ⟨rfl, h8, k8⟩)
        have hX8 : w8.heap[X]? = w7.heap[X]? := k8.block X (World.block_lt_of_cell? _ _ HY7.out.c0) (fun e => HXF.out e)
        have z3 : w8.cell? ⟨X, 3, none⟩ = some (.int .i64 x.bud) := by rw [World.cell?_of_block (a := ⟨X, 3, none⟩) hX8]; exact HY7.out.c3
        have z4 : w8.cell? ⟨X, 4, none⟩ = some (.int .i64 x.act) := by rw [World.cell?_of_block (a := ⟨X, 4, none⟩) hX8]; exact HY7.out.c4
        have B8 := below_keeps HB7.out k8 HB7.out.size (fun b hb => by rw [hb]; exact hgf.out)
        have H8 := Lib.hid h8
        have HB8 := Lib.hid B8
        clear SI k8 h8 B8 hX8 HY7 HB7
        by_cases hlt : x.act < x.bud
        · have F3 : Hid (run js now s = again js now (say (work1 s1 k) k 1 (now + 1))) := Lib.hid (by rw [F.out, F2.out, if_neg (by omega), if_neg (by omega), if_pos hlt])
          have AI := again_is HT.out HB8.out H8.out HG.out HN.out (HBN5.out 1 (now + 1) (by decide)) (by have := HA.out; omega)
          go_wp2_with (go_at_call 71; refine AI.mono ?_; rintro e w9 ⟨rfl, av, h9, B9⟩)
          have H9 := Lib.hid h9
          have HB9 := Lib.hid B9
          clear h9 B9
          first | go_ret | go_end0 | (refine bodyPost_ret (v := .tuple #[]) (results_none rfl _ _ _) rfl ?_) | (simp only [Exit.inBlock, Exit.then]; refine bodyPost_ret (results_none rfl _ _ _) rfl ?_)
          first | exact ⟨rfl, tv, av, by rw [F3.out]; exact H9.out, HB9.out⟩ | exact ⟨rfl, ⟨tv, av, by rw [F3.out]; exact H9.out⟩, HB9.out⟩
        · have F3 : Hid (run js now s = say (work1 s1 k) k 1 (now + 1)) := Lib.hid (by rw [F.out, F2.out, if_neg (by omega), if_neg (by omega), if_neg hlt])
          go_wp2_with fail
          first | go_ret | go_end0 | (refine bodyPost_ret (v := .tuple #[]) (results_none rfl _ _ _) rfl ?_) | (simp only [Exit.inBlock, Exit.then]; refine bodyPost_ret (results_none rfl _ _ _) rfl ?_)
          first | exact ⟨rfl, tv, d.av, by rw [F3.out]; exact H8.out, HB8.out⟩ | exact ⟨rfl, ⟨tv, d.av, by rw [F3.out]; exact H8.out⟩, HB8.out⟩
      · rw [decide_eq_false hab] at CR
        have F3 : Hid (run js now s = say (work1 s1 k) k 2 (now + 1)) := Lib.hid (by rw [F.out, F2.out, if_neg (by omega), if_pos (by omega)])
        go_upto_region 10 with (go_at_call 70; refine CR.mono ?_; rintro e w7 ⟨rfl, hb7⟩)
        have h7 := H6.out.down hb7
        have B7 := HB6.out.trans (hb7.mono HB6.out.size)
        have SI := say_is h7 HK.out 2 1 (by have := HN.out; omega)
        have hgf := Lib.hid (h7.ge d.gf (by simp [Adr.blocks]))
        have HB7 := Lib.hid B7
        clear CR hb7 h7 B7 H6 HB6 HY y0 y1 y2 y3 y4 y5 y6 y7
        go_wp2_with (go_at_call 34; refine SI.mono ?_; rintro e w8 ⟨rfl, h8, k8⟩)
        have H8 := Lib.hid h8
        have HB8 := Lib.hid (below_keeps HB7.out k8 HB7.out.size (fun b hb => by rw [hb]; exact hgf.out))
        clear SI k8 h8 HB7
        first | go_ret | go_end0 | (refine bodyPost_ret (v := .tuple #[]) (results_none rfl _ _ _) rfl ?_) | (simp only [Exit.inBlock, Exit.then]; refine bodyPost_ret (results_none rfl _ _ _) rfl ?_)
        first | exact ⟨rfl, tv, d.av, by rw [F3.out]; exact H8.out, HB8.out⟩ | exact ⟨rfl, ⟨tv, d.av, by rw [F3.out]; exact H8.out⟩, HB8.out⟩
end
end Rob
end Go.Proofs.YtbgiegecfapmlaaGreatDoor
