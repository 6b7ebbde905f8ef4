/- The runner: need; conditions: good jobs, the library's tables as its text lays them. -/
import Derived.Test.YtbgiegecfapmlaaGreatDoorRunner
import Derived.Deep.RegionHeld3
namespace Go.Proofs.YtbgiegecfapmlaaGreatDoor
open Go.RowKit
set_option linter.unusedVariables false
set_option linter.unusedSimpArgs false
namespace Rob
open Job (jc jv)
section
variable {base : Nat} {w w' : World} {d : Adr} {js : List J} {s : St} {now : Int}
theorem below_drew (w : World) : Below w.heap.size w w.drew := ((Keeps.refl (fun _ => False) w).drew).below (fun _ _ h => h)
/-- What 'need' reads. -/
def NeedS (p gr i b off n cj cr : Nat) (x : J) (r : Int) (W : World) : Prop :=
  W.cell? ⟨p, 0, none⟩ = some (.slice (some ⟨b, off, none⟩) n cj) ∧ W.cell? ⟨p, 2, none⟩ = some (.slice (some ⟨gr, 0, none⟩) n cr) ∧ W.cell? ⟨gr, i, none⟩ = some (.int .i64 r) ∧
  W.cell? ⟨b, off + i * 8, none⟩ = some (.string x.nm) ∧ W.cell? ⟨b, off + i * 8 + 1, none⟩ = some (.int .i64 x.rel) ∧
      W.cell? ⟨b, off + i * 8 + 2, none⟩ = some (.int .i64 x.dl) ∧ W.cell? ⟨b, off + i * 8 + 3, none⟩ = some (.int .i64 x.bud) ∧ W.cell? ⟨b, off + i * 8 + 4, none⟩ = some (.int .i64 x.act) ∧
      W.cell? ⟨b, off + i * 8 + 5, none⟩ = some (.int .i64 x.val) ∧ W.cell? ⟨b, off + i * 8 + 6, none⟩ = some (.int .i64 x.cln) ∧ W.cell? ⟨b, off + i * 8 + 7, none⟩ = some (.bool x.hard)
theorem NeedS.of (h : At base w d js s now) {i : Nat} (hi : i < js.length) : ∃ b off x, d.Aj = some ⟨b, off, none⟩ ∧ js[i]? = some x ∧ ∀ W, Below w.heap.size w W → NeedS d.p d.gr i b off js.length d.cj d.cr x (ranAt s i) W := by
  obtain ⟨b, off, x, hA, hx, _⟩ := Job.cells8 h.JR hi
  refine ⟨b, off, x, hA, hx, fun W hb => ?_⟩
  have hW := h.down hb
  obtain ⟨b', off', x', hA', hx', hlt, c0, c1, c2, c3, c4, c5, c6, c7⟩ := Job.cells8 hW.JR hi
  rw [hA] at hA'
  cases hA'
  rw [hx] at hx'
  cases hx'
  have b0 := hW.B.cellAt (i := 0) rfl
  rw [hA] at b0
  exact ⟨b0, hW.B.cellAt (i := 2) rfl, hW.R.cellAt (ran_get hW hi), c0, c1, c2, c3, c4, c5, c6, c7⟩
/-- The jobs are good. -/
def Goods (js : List J) : Prop := ∀ x ∈ js, Job.good x = true ∧ x.nm.size < 4611686018427387904
set_option maxRecDepth 100000 in
set_option maxHeartbeats 4000000 in
theorem need_is (T : Tabs w) (h : At base w d js s now) (hg : Goods js) {i : Nat} (hi : i < js.length) (hr : 0 ≤ ranAt s i ∧ ranAt s i ≤ 100000) :
    Calls Tryz.prog 65 #[.pointer (some ⟨d.p, 0, none⟩), .int .i64 (i : Int)] w fun e w' => e = .returned (.int .i64 (need js s i)) ∧ Below w.heap.size w w' := by
  obtain ⟨b, off, x, hA, hx, NS⟩ := NeedS.of h hi
  have hgx := hg x (List.mem_of_getElem? hx)
  have hok := Job.good_ok hgx.1
  have hN : need js s i = x.charge - ranAt s i := by unfold need chAt; rw [hx]; rfl
  have hch : Job.charge x = x.charge := by unfold Job.charge; rw [hgx.1]; rfl
  have hcb : x.charge = x.bud + x.cln := rfl
  have hwr : IntKind.i64.wrap (x.charge - ranAt s i) = x.charge - ranAt s i := by
    have := hok.bud; have := hok.cln
    rw [IntKind.wrap_i64]; omega
  have C := fun W (h : Tabs W) => Job.charge_is x W h hgx.2
  rw [hch] at C
  unfold jv at C
  rw [hN]
  have HC := Lib.hid C
  have HT := Lib.hid (T.below (below_drew w))
  have HNS := Lib.hid NS
  have HWR := Lib.hid hwr
  have hi0 : (0 : Int) ≤ (i : Int) := by omega
  have hi1 : (i : Int) < (js.length : Int) := by omega
  obtain ⟨s0, s1, s2, s3, s4, s5, s6, s7, s8, s9, s10⟩ := NS w.drew (below_drew w)
  clear C T NS hwr hcb hch hN hok hgx hx hA h hg hr
  generalize x.charge = ch at *
  generalize ranAt s i = r at *
  generalize js.length = n at *
  go_enter Tryz.func65, Tryz.ntmps65
  go_wp2_with fail
  go_region_held3 (fun W => W.cell? ⟨d.p, 0, none⟩ = some (.slice (some ⟨b, off, none⟩) n d.cj) ∧ W.cell? ⟨d.p, 2, none⟩ = some (.slice (some ⟨d.gr, 0, none⟩) n d.cr) ∧ W.cell? ⟨d.gr, i, none⟩ = some (.int .i64 r) ∧ W.cell? ⟨b, off + i * 8, none⟩ = some (.string x.nm) ∧ W.cell? ⟨b, off + i * 8 + 1, none⟩ = some (.int .i64 x.rel) ∧ W.cell? ⟨b, off + i * 8 + 2, none⟩ = some (.int .i64 x.dl) ∧ W.cell? ⟨b, off + i * 8 + 3, none⟩ = some (.int .i64 x.bud) ∧ W.cell? ⟨b, off + i * 8 + 4, none⟩ = some (.int .i64 x.act) ∧ W.cell? ⟨b, off + i * 8 + 5, none⟩ = some (.int .i64 x.val) ∧ W.cell? ⟨b, off + i * 8 + 6, none⟩ = some (.int .i64 x.cln) ∧ W.cell? ⟨b, off + i * 8 + 7, none⟩ = some (.bool x.hard)) (first | exact HNS.out _ (below_drew w) | exact HNS.out _ B5) (first | (go_at_call 110; refine (HC.out _ HT.out).mono ?_; rintro e w2 ⟨rfl, hb⟩; have B5 := (below_drew w).trans (hb.mono (Nat.le_refl _))))
  go_wp2_with fail
  go_ret
  exact ⟨by show Ending.returned (.int .i64 (IntKind.i64.wrap (ch - r))) = _; rw [HWR.out], B5⟩
end
end Rob
end Go.Proofs.YtbgiegecfapmlaaGreatDoor
