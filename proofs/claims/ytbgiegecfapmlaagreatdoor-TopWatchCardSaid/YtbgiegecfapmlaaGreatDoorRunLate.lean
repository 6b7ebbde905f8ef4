/- The runner: late; conditions: good jobs, the library's tables as its text lays them. -/
import Derived.Test.YtbgiegecfapmlaaGreatDoorRunSay
namespace Go.Proofs.YtbgiegecfapmlaaGreatDoor
open Go.RowKit
set_option linter.unusedVariables false
set_option linter.unusedSimpArgs false
namespace Rob
open Job (jc jv)
section
variable {w0 w w' : World} {d : Adr} {js : List J} {s : St} {now : Int}
theorem late_ran (js : List J) (now : Int) (s : St) (n : Nat) : (late js now s n).ran = s.ran := by
  induction n with
  | zero => rfl
  | succ n ih => simp only [late]; split <;> simpa [say] using ih
/-- The bounds of what has run. -/
def Small (js : List J) (s : St) (now : Int) : Prop := (0 ≤ now ∧ now ≤ 100000) ∧ ∀ i, i < js.length → 0 ≤ ranAt s i ∧ ranAt s i ≤ 100000
theorem Small.late (h : Small js s now) (n : Nat) : Small js (late js now s n) now := ⟨h.1, fun i hi => by unfold ranAt; rw [late_ran]; exact h.2 i hi⟩
set_option maxRecDepth 100000 in
set_option maxHeartbeats 4000000 in
theorem late_is (T : Tabs w0) (hB : Below w0.heap.size w0 w) (h : At w0.heap.size w d js s now) (hg : Goods js) (hs : Small js s now) :
    Calls Tryz.prog 30 #[.pointer (some ⟨d.p, 0, none⟩)] w fun e w' => e = .returned (.tuple #[]) ∧ At w0.heap.size w' d js (late js now s js.length) now ∧ Below w0.heap.size w0 w' := by
  have b0 := h.B.cellAt (i := 0) rfl
  have H := Lib.hid h
  have HB := Lib.hid hB
  have HT := Lib.hid T
  have HG := Lib.hid hg
  have HS := Lib.hid hs
  have hn12 := h.n12
  clear h hB T hg hs
  go_enter Tryz.func30, Tryz.ntmps30
  go_wp2_with fail
  go_loopw [9] (fun i wr => ∃ k : Nat, k ≤ js.length ∧ i = .int .i64 (k : Int) ∧ At w0.heap.size wr d js (late js now s k) now ∧ Below w0.heap.size w0 wr) (fun i _ => js.length - (intOf i).toNat)
  case atStart => exact ⟨0, by omega, rfl, H.out, HB.out⟩
  case round =>
    clear b0 H HB
    obtain ⟨k, hk, rfl, h, B⟩ := hrel
    have hsm := HS.out.late k
    have hst : late js now s (k + 1) = if opn (late js now s k) k 2 = true ∧ dlAt js k - now < need js (late js now s k) k then say (late js now s k) k 3 now else late js now s k := rfl
    have hfin : Hid (k = js.length → late js now s js.length = late js now s k) := Lib.hid (fun e => by rw [e])
    by_cases hlt : k < js.length
    · have hlti : (k : Int) < (js.length : Int) := by omega
      generalize late js now s k = z at *
      obtain ⟨b, off, x, hA, hx, hb, c0, c1, c2, c3, c4, c5, c6, c7⟩ := Job.cells8 h.JR hlt
      have hi0 : (0 : Int) ≤ (k : Int) := by omega
      have hi1 : (k : Int) + 1 ≤ 9223372036854775807 := by omega
      have X := Job.Box.of (Blk.new wr 36 (jc x))
      have B2 := B.alloc B.size (.cells (jc x).toArray 36)
      have h2 := h.down ((Below.refl wr.heap.size wr).alloc (Nat.le_refl _) (.cells (jc x).toArray 36))
      rw [dl_at hx] at hst
      have HST := Lib.hid hst
      have HSM := Lib.hid hsm
      have HXM := Lib.hid (List.mem_of_getElem? hx)
      unfold jc at X B2 h2
      obtain ⟨x0, x1, x2, x3, x4, x5, x6, x7⟩ := X
      have b7 := h2.B.cellAt (i := 7) rfl
      have hop := fun m => open_q h2 hlt 2 m
      rw [hA]
      clear hst hsm hx hb B h x0 x1 x3 x4 x5 x6 x7
      cases ho : opn z k 2 with
      | false =>
        rw [ho] at hop
        have HOP := Lib.hid hop
        have F : Hid (late js now s (k + 1) = z) := Lib.hid (by rw [HST.out, if_neg (by rw [ho]; simp)])
        have H2 := Lib.hid h2
        clear hop ho h2
        go_wp2_with fail
        go_quiet ((go_at_call 33; exact HOP.out _))
        have B3 := below_keeps B2 ((Keeps.refl (fun _ => False) _).drewN nq) B2.size (fun _ h => h.elim)
        have h3 := Lib.hid (H2.out.down (((Keeps.refl (fun _ => False) _).drewN nq).below (fun _ _ h => h)))
        go_wp2_with fail
        go_roundw
        case rel => exact ⟨k + 1, by omega, by simp, by rw [F.out]; exact h3.out, B3⟩
        case measure => simp [intOf]; omega
      | true =>
        clear hop
        have hgx := HG.out x HXM.out
        have hok := Job.good_ok hgx.1
        have hn1 := HSM.out.1
        have hwr : IntKind.i64.wrap (x.dl - now) = x.dl - now := by
          have := hok.dl; have := hok.most; have := hok.rel
          rw [IntKind.wrap_i64]; omega
        have hwr2 : wrap64 (x.dl - now) = x.dl - now := by
          have := hok.dl; have := hok.most; have := hok.rel
          unfold wrap64; omega
        have HF := Lib.hid (fun hc : x.dl - now < need js z k => (show late js now s (k + 1) = say z k 3 now by rw [HST.out, if_pos ⟨ho, hc⟩]))
        have HNF := Lib.hid (fun hc : ¬ x.dl - now < need js z k => (show late js now s (k + 1) = z by rw [HST.out, if_neg (fun h => hc h.2)]))
        clear hgx hok hn1
        go_upto_region 3 with fail
        generalize wr.alloc (.cells #[.string x.nm, .int .i64 x.rel, .int .i64 x.dl, .int .i64 x.bud, .int .i64 x.act, .int .i64 x.val, .int .i64 x.cln, .bool x.hard] 36) = W1 at *
        have hD := h2.down (below_drew W1)
        have OI := open_is hD hlt 2
        rw [ho] at OI
        have NI := need_is (HT.out.below (B2.trans ((below_drew W1).mono B2.size))) hD HG.out hlt (HSM.out.2 k hlt)
        generalize need js z k = N at *
        have HD := Lib.hid hD
        have hle := Lib.hid B2.size
        have B2D := Lib.hid (B2.trans ((below_drew W1).mono B2.size))
        clear ho hD h2 B2
        by_cases hd : x.dl - now < N
        · have v2 : decide (x.dl - now < N) = true := by simpa using hd
          have F := Lib.hid (HF.out hd)
          clear HF HNF
          go_region_held3 (fun W => W.cell? ⟨wr.heap.size, 2, none⟩ = some (.int .i64 x.dl) ∧ W.cell? ⟨d.p, 7, none⟩ = some (.int .i64 now)) (first | exact ⟨x2, b7⟩ | exact ⟨y2, y7⟩) (first | (go_at_call 33; refine OI.mono ?_; rintro e w2 ⟨rfl, rfl⟩) | (go_at_call 65; refine NI.mono ?_; rintro e w3 ⟨rfl, hb⟩; have y2 := (hb.cell (World.block_lt_of_cell? _ _ x2)).trans x2; have y7 := (hb.cell (World.block_lt_of_cell? _ _ b7)).trans b7))
          have h3 := HD.out.down hb
          have B3 := B2D.out.trans (hb.mono B2D.out.size)
          have SI := say_is h3 hlt 3 0 (by have := HSM.out.1; omega)
          rw [Int.add_zero] at SI
          have hge := Lib.hid (HD.out.ge d.gf (by simp [Adr.blocks]))
          clear h3 hb x2 b7 y2 y7 OI NI hwr hwr2
          go_wp2_with fail
          refine SI.mono ?_
          rintro e w4 ⟨rfl, h4, k4⟩
          have H4 := Lib.hid h4
          have B4 := below_keeps B3 k4 B3.size (fun i hi => by rw [hi]; exact hge.out)
          clear h4 k4 SI
          go_wp2_with fail
          go_roundw
          case rel => exact ⟨k + 1, by omega, by simp, by rw [F.out]; exact H4.out, B4⟩
          case measure => simp [intOf]; omega
        · have v2 : decide (x.dl - now < N) = false := by simp; omega
          have F := Lib.hid (HNF.out hd)
          clear HF HNF
          go_region_held3 (fun W => W.cell? ⟨wr.heap.size, 2, none⟩ = some (.int .i64 x.dl) ∧ W.cell? ⟨d.p, 7, none⟩ = some (.int .i64 now)) (first | exact ⟨x2, b7⟩ | exact ⟨y2, y7⟩) (first | (go_at_call 33; refine OI.mono ?_; rintro e w2 ⟨rfl, rfl⟩) | (go_at_call 65; refine NI.mono ?_; rintro e w3 ⟨rfl, hb⟩; have y2 := (hb.cell (World.block_lt_of_cell? _ _ x2)).trans x2; have y7 := (hb.cell (World.block_lt_of_cell? _ _ b7)).trans b7))
          have h3 := Lib.hid (HD.out.down hb)
          have B3 := B2D.out.trans (hb.mono B2D.out.size)
          clear hb x2 b7 y2 y7 OI NI hwr hwr2
          go_wp2_with fail
          go_roundw
          case rel => exact ⟨k + 1, by omega, by simp, by rw [F.out]; exact h3.out, B3⟩
          case measure => simp [intOf]; omega
    · have hlti : ¬ (k : Int) < (js.length : Int) := by omega
      have e := hfin.out (by omega)
      have hh := Lib.hid h
      have E := Lib.hid e
      clear h e
      go_wp2_with fail
      go_end0
      exact ⟨rfl, by rw [E.out]; exact hh.out, B⟩
end
end Rob
end Go.Proofs.YtbgiegecfapmlaaGreatDoor
