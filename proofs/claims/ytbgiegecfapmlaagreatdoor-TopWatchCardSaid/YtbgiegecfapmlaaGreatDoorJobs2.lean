/- What jobs take: Charge, Runs, Work, End; good of tocsintop; conditions: the library's tables as its text lays them. -/
import Derived.Test.YtbgiegecfapmlaaGreatDoorJobs
import Derived.Test.YtbgiegecfapmlaaGreatDoorRobRun
namespace Go.Proofs.YtbgiegecfapmlaaGreatDoor
open Go.RowKit
set_option linter.unusedVariables false
set_option linter.unusedSimpArgs false
namespace Job
open Rob (J)
/-- A job's box: its cells by name. -/
structure Box (w : World) (b : Nat) (j : J) : Prop where
  c0 : w.cell? ⟨b, 0, none⟩ = some (.string j.nm)
  c1 : w.cell? ⟨b, 1, none⟩ = some (.int .i64 j.rel)
  c2 : w.cell? ⟨b, 2, none⟩ = some (.int .i64 j.dl)
  c3 : w.cell? ⟨b, 3, none⟩ = some (.int .i64 j.bud)
  c4 : w.cell? ⟨b, 4, none⟩ = some (.int .i64 j.act)
  c5 : w.cell? ⟨b, 5, none⟩ = some (.int .i64 j.val)
  c6 : w.cell? ⟨b, 6, none⟩ = some (.int .i64 j.cln)
  c7 : w.cell? ⟨b, 7, none⟩ = some (.bool j.hard)
theorem Box.of {w : World} {b : Nat} {j : J} (X : Blk w b 36 (jc j)) : Box w b j :=
  ⟨X.cellAt (i := 0) rfl, X.cellAt (i := 1) rfl, X.cellAt (i := 2) rfl, X.cellAt (i := 3) rfl, X.cellAt (i := 4) rfl, X.cellAt (i := 5) rfl, X.cellAt (i := 6) rfl, X.cellAt (i := 7) rfl⟩
theorem Box.below {w w' : World} {b : Nat} {j : J} (h : Box w b j) (hb : Below w.heap.size w w') : Box w' b j :=
  ⟨(hb.cell (World.block_lt_of_cell? w _ h.c0)).trans h.c0, (hb.cell (World.block_lt_of_cell? w _ h.c1)).trans h.c1, (hb.cell (World.block_lt_of_cell? w _ h.c2)).trans h.c2, (hb.cell (World.block_lt_of_cell? w _ h.c3)).trans h.c3,
    (hb.cell (World.block_lt_of_cell? w _ h.c4)).trans h.c4, (hb.cell (World.block_lt_of_cell? w _ h.c5)).trans h.c5, (hb.cell (World.block_lt_of_cell? w _ h.c6)).trans h.c6, (hb.cell (World.block_lt_of_cell? w _ h.c7)).trans h.c7⟩
def charge (j : J) : Int := if good j = true then j.charge else 0
def work (j : J) : Int := if good j = true then j.work else 0
theorem runs_is (j : J) (w : World) :
    Calls Tryz.prog 70 #[jv j] w fun e w' => e = .returned (.bool (decide (j.act ≤ j.bud))) ∧ Below w.heap.size w w' := by
  have X := Blk.new w 36 (jc j)
  have B := (Below.refl w.heap.size w).alloc (Nat.le_refl _) (.cells (jc j).toArray 36)
  have x3 := X.cellAt (i := 3) rfl
  have x4 := X.cellAt (i := 4) rfl
  unfold jv
  unfold jc at B x3 x4
  clear X
  go_enter Tryz.func70, Tryz.ntmps70
  go_wp2_with fail
  go_ret
  exact ⟨rfl, B⟩
set_option maxRecDepth 100000 in
set_option maxHeartbeats 4000000 in
theorem charge_is (j : J) (w : World) (T : Tabs w) (hs : j.nm.size < 4611686018427387904) :
    Calls Tryz.prog 110 #[jv j] w fun e w' => e = .returned (.int .i64 (charge j)) ∧ Below w.heap.size w w' := by
  have X := Box.of (Blk.new w 36 (jc j))
  have B := (Below.refl w.heap.size w).alloc (Nat.le_refl _) (.cells (jc j).toArray 36)
  have C := fun W (h : Tabs W) => good_is j W h hs
  have hok := fun h : good j = true => good_ok h
  have HOK := Lib.hid hok
  have HX := Lib.hid X
  obtain ⟨G, hG⟩ : ∃ b, charge j = b := ⟨_, rfl⟩
  rw [hG]
  unfold charge J.charge at hG
  have HG := Lib.hid hG
  have HC := Lib.hid C
  have HT := Lib.hid (T.below B)
  have hlt := B.size
  clear hG C T hs X hok
  have HB := Lib.hid B
  clear B
  unfold jv at HC ⊢
  unfold jc at HT HX HB hlt
  obtain ⟨x0, x1, x2, x3, x4, x5, x6, x7⟩ := HX.out
  go_enter Tryz.func110, Tryz.ntmps110
  go_upto_region 1 with fail
  generalize hw1 : w.alloc (.cells #[.string j.nm, .int .i64 j.rel, .int .i64 j.dl, .int .i64 j.bud, .int .i64 j.act, .int .i64 j.val, .int .i64 j.cln, .bool j.hard] 36) = w1 at *
  have hlt2 : w.heap.size < w1.heap.size := World.block_lt_of_cell? w1 _ x0
  clear hw1
  go_wp2_with fail
  refine (HC.out w1 HT.out).mono ?_
  rintro e w2 ⟨rfl, hb⟩
  have y3 := (hb.cell (World.block_lt_of_cell? w1 _ x3)).trans x3
  have y6 := (hb.cell (World.block_lt_of_cell? w1 _ x6)).trans x6
  have B2 := HB.out.trans (hb.mono (by omega))
  clear x0 x1 x2 x3 x4 x5 x6 x7 HC HT hb HB hlt hlt2 HX
  cases hg : good j with
  | false =>
    have F : Hid (G = 0) := Lib.hid (by rw [← HG.out, hg]; rfl)
    clear hg
    go_wp2_with fail
    go_ret
    exact ⟨by rw [F.out]; rfl, B2⟩
  | true =>
    have F : Hid (G = j.bud + j.cln) := Lib.hid (by rw [← HG.out, hg]; rfl)
    obtain ⟨k1, k2, k3, ⟨k4, k4'⟩, k5, k6, ⟨k7, k7'⟩⟩ := HOK.out hg
    have hwr : wrap64 (j.bud + j.cln) = j.bud + j.cln := by unfold wrap64; omega
    clear hg k1 k2 k3 k5 k6 k4 k4' k7 k7'
    go_wp2_with fail
    go_ret
    exact ⟨by rw [F.out]; first | rfl | (rw [hwr]; rfl), B2⟩
set_option maxRecDepth 100000 in
set_option maxHeartbeats 4000000 in
theorem work_is (j : J) (w : World) (T : Tabs w) (hs : j.nm.size < 4611686018427387904) :
    Calls Tryz.prog 69 #[jv j] w fun e w' => e = .returned (.int .i64 (work j)) ∧ Below w.heap.size w w' := by
  have X := Box.of (Blk.new w 36 (jc j))
  have B := (Below.refl w.heap.size w).alloc (Nat.le_refl _) (.cells (jc j).toArray 36)
  have C := fun W (h : Tabs W) => good_is j W h hs
  have hok := fun h : good j = true => good_ok h
  have HOK := Lib.hid hok
  have HX := Lib.hid X
  obtain ⟨G, hG⟩ : ∃ b, work j = b := ⟨_, rfl⟩
  rw [hG]
  unfold work J.work at hG
  have HG := Lib.hid hG
  have HC := Lib.hid C
  have HT := Lib.hid (T.below B)
  have hlt := B.size
  clear hG C T hs X hok
  have HB := Lib.hid B
  clear B
  unfold jv at HC ⊢
  unfold jc at HT HX HB hlt
  obtain ⟨x0, x1, x2, x3, x4, x5, x6, x7⟩ := HX.out
  go_enter Tryz.func69, Tryz.ntmps69
  go_upto_region 1 with fail
  generalize hw1 : w.alloc (.cells #[.string j.nm, .int .i64 j.rel, .int .i64 j.dl, .int .i64 j.bud, .int .i64 j.act, .int .i64 j.val, .int .i64 j.cln, .bool j.hard] 36) = w1 at *
  have hlt2 : w.heap.size < w1.heap.size := World.block_lt_of_cell? w1 _ x0
  clear hw1
  go_wp2_with fail
  refine (HC.out w1 HT.out).mono ?_
  rintro e w2 ⟨rfl, hb⟩
  have y3 := (hb.cell (World.block_lt_of_cell? w1 _ x3)).trans x3
  have y6 := (hb.cell (World.block_lt_of_cell? w1 _ x6)).trans x6
  have B2 := HB.out.trans (hb.mono (by omega))
  have y0 := (hb.cell (World.block_lt_of_cell? w1 _ x0)).trans x0
  have y1 := (hb.cell (World.block_lt_of_cell? w1 _ x1)).trans x1
  have y2 := (hb.cell (World.block_lt_of_cell? w1 _ x2)).trans x2
  have y4 := (hb.cell (World.block_lt_of_cell? w1 _ x4)).trans x4
  have y5 := (hb.cell (World.block_lt_of_cell? w1 _ x5)).trans x5
  have y7 := (hb.cell (World.block_lt_of_cell? w1 _ x7)).trans x7
  have hle := B2.size
  clear x0 x1 x2 x3 x4 x5 x6 x7 HC HT hb HB hlt hlt2 HX
  cases hg : good j with
  | false =>
    have F : Hid (G = 0) := Lib.hid (by rw [← HG.out, hg]; rfl)
    clear hg
    go_wp2_with fail
    go_ret
    exact ⟨by rw [F.out]; rfl, B2⟩
  | true =>
    have F : Hid (G = if j.act ≤ j.bud then j.act else j.bud + j.cln) := Lib.hid (by rw [← HG.out, hg]; rfl)
    obtain ⟨k1, k2, k3, ⟨k4, k4'⟩, k5, k6, ⟨k7, k7'⟩⟩ := HOK.out hg
    have hwr : wrap64 (j.bud + j.cln) = j.bud + j.cln := by unfold wrap64; omega
    have RC := fun W => runs_is j W
    unfold jv at RC
    have HRC := Lib.hid RC
    have HB2 := Lib.hid B2
    clear hg k1 k2 k3 k5 k6 k4 k4' k7 k7' RC B2
    by_cases hr : j.act ≤ j.bud
    · have F2 : Hid (G = j.act) := Lib.hid (by rw [F.out, if_pos hr])
      go_wp2_with fail
      refine (HRC.out _).mono ?_
      rintro e w3 ⟨rfl, hb⟩
      have z4 := (hb.cell (World.block_lt_of_cell? w2 _ y4)).trans y4
      clear y0 y1 y2 y3 y4 y5 y6 y7
      go_wp2_with fail
      go_ret
      exact ⟨by rw [F2.out]; rfl, HB2.out.trans (hb.mono (by omega))⟩
    · have F2 : Hid (G = j.bud + j.cln) := Lib.hid (by rw [F.out, if_neg hr])
      go_wp2_with fail
      refine (HRC.out _).mono ?_
      rintro e w3 ⟨rfl, hb⟩
      have z3 := (hb.cell (World.block_lt_of_cell? w2 _ y3)).trans y3
      have z6 := (hb.cell (World.block_lt_of_cell? w2 _ y6)).trans y6
      clear y0 y1 y2 y3 y4 y5 y6 y7
      go_wp2_with fail
      go_ret
      exact ⟨by rw [F2.out]; first | rfl | (rw [hwr]; rfl), HB2.out.trans (hb.mono (by omega))⟩
/-- The last deadline. -/
def endOf (js : List J) : Int := js.foldl (fun m x => if m < x.dl then x.dl else m) 0
def endTo (js : List J) : Nat → Int
  | 0 => 0
  | n + 1 => let d := (js[n]?.map (·.dl)).getD 0; if endTo js n < d then d else endTo js n
def eend (js : List J) : Int := if all js = true then endTo js js.length else 0
theorem endTo_le {js : List J} {B : Int} (h0 : 0 ≤ B) (h : ∀ x ∈ js, x.dl ≤ B) : ∀ n, 0 ≤ endTo js n ∧ endTo js n ≤ B := by
  intro n
  induction n with
  | zero => exact ⟨Int.le_refl _, h0⟩
  | succ n ih =>
    simp only [endTo]
    have hd : ((js[n]?.map (·.dl)).getD 0) ≤ B := by
      cases hx : js[n]? with
      | none => simpa using h0
      | some x => simpa using h x (List.mem_of_getElem? hx)
    split <;> omega
theorem all_mem {js : List J} (h : all js = true) {x : J} (hx : x ∈ js) : good x = true := by
  unfold all at h
  simp only [Bool.and_eq_true, List.all_eq_true] at h
  exact h.2 x hx
/-- What tocsintop asks of jobs. -/
def fine (js : List J) : Bool := !heavy js 12 300 && all js
theorem fine_is {w : World} {A : Option Addr} {n c : Nat} {js : List J} (T : Tabs w) (R : Row jc 8 w A n js) (hs : ∀ x ∈ js, x.nm.size < 4611686018427387904) :
    Calls Tryz.prog 8 #[.slice A n c] w fun en w' => en = .returned (.bool (fine js)) ∧ Below w.heap.size w w' := by
  have C := all_is (c := c) T R hs
  have D := heavy_is (c := c) R 12 300
  unfold fine
  generalize heavy js 12 300 = h at D ⊢
  generalize all js = a at C ⊢
  have HC := Lib.hid C
  have HD := Lib.hid D
  clear C D R T hs
  cases h with
  | true =>
    go_enter Tryz.func8, Tryz.ntmps8
    go_wp2_with (go_at_call 21; refine HD.out.mono ?_; rintro e w2 ⟨rfl, rfl⟩)
    go_ret
    exact ⟨rfl, Below.refl _ _⟩
  | false =>
    go_enter Tryz.func8, Tryz.ntmps8
    go_wp2_with (first | (go_at_call 21; refine HD.out.mono ?_; rintro e w2 ⟨rfl, rfl⟩) | (go_at_call 22; refine HC.out.mono ?_; rintro e w2 ⟨rfl, hb⟩))
    go_ret
    exact ⟨by first | rfl | simp, hb⟩
set_option maxRecDepth 100000 in
set_option maxHeartbeats 4000000 in
theorem end_is {w : World} {A : Option Addr} {n c : Nat} {js : List J} (T : Tabs w) (R : Row jc 8 w A n js) (hs : ∀ x ∈ js, x.nm.size < 4611686018427387904) :
    Calls Tryz.prog 29 #[.slice A n c] w fun en w' => en = .returned (.int .i64 (eend js)) ∧ Below w.heap.size w w' := by
  have hl := R.1
  have hml := R.2.1
  unfold maxLen at hml
  have C := all_is (c := c) T R hs
  have HC := Lib.hid C
  have HR := Lib.hid R
  have HL := Lib.hid hl
  have HML := Lib.hid hml
  obtain ⟨G, hG⟩ : ∃ b, eend js = b := ⟨_, rfl⟩
  rw [hG]
  unfold eend at hG
  have HG := Lib.hid hG
  clear R hl hml T hs C hG
  go_enter Tryz.func29, Tryz.ntmps29
  go_wp2_with fail
  refine HC.out.mono ?_
  rintro e w1 ⟨rfl, hb1⟩
  cases ha : all js with
  | false =>
    have F : Hid (G = 0) := Lib.hid (by rw [← HG.out, ha]; rfl)
    clear ha
    go_wp2_with fail
    go_ret
    exact ⟨by rw [F.out]; rfl, hb1⟩
  | true =>
    have F : Hid (G = endTo js js.length) := Lib.hid (by rw [← HG.out, ha]; rfl)
    have HA := Lib.hid ha
    clear ha
    go_wp2_with fail
    go_loopw [3, 11] (fun m v wr => ∃ i : Nat, i ≤ n ∧ m = .int .i64 (endTo js i) ∧ v = .int .i64 (i : Int) ∧ Below w.heap.size w wr) (fun _ v _ => n - (intOf v).toNat)
    case atStart => exact ⟨0, by omega, rfl, rfl, hb1⟩
    case round =>
      obtain ⟨i, hi, rfl, rfl, B⟩ := hrel
      by_cases hlt : i < n
      · have hlti : (i : Int) < (n : Int) := by omega
        obtain ⟨b, off, x, rfl, hx, hb, c0, c1, c2, c3, c4, c5, c6, c7⟩ := cells8 (HR.out.below B) hlt
        have hi0 : (0 : Int) ≤ (i : Int) := by omega
        have HML2 := HML.out
        have hi1 : (i : Int) + 1 ≤ 9223372036854775807 := by omega
        have hE : endTo js (i + 1) = if endTo js i < x.dl then x.dl else endTo js i := by simp only [endTo]; rw [hx]; rfl
        have X := Box.of (Blk.new wr 36 (jc x))
        have B2 := B.alloc B.size (.cells (jc x).toArray 36)
        unfold jc at X B2
        obtain ⟨x0, x1, x2, x3, x4, x5, x6, x7⟩ := X
        have HE := Lib.hid hE
        clear hE hx hb HML2 B
        generalize endTo js i = m at *
        by_cases hm : m < x.dl
        · have hE2 : Hid (endTo js (i + 1) = x.dl) := Lib.hid (by rw [HE.out, if_pos hm])
          have hmx : max m x.dl = x.dl := by omega
          go_wp2_with fail
          go_roundw
          case rel => exact ⟨i + 1, by omega, by rw [hE2.out] <;> simp, by simp, B2⟩
          case measure => simp [intOf]; omega
        · have hE2 : Hid (endTo js (i + 1) = m) := Lib.hid (by rw [HE.out, if_neg hm])
          have hmx : max m x.dl = m := by omega
          go_wp2_with fail
          go_roundw
          case rel => exact ⟨i + 1, by omega, by rw [hE2.out] <;> simp, by simp, B2⟩
          case measure => simp [intOf]; omega
      · have hlti : ¬ (i : Int) < (n : Int) := by omega
        have hin : i = n := by omega
        have F2 : Hid (G = endTo js i) := Lib.hid (by rw [F.out, HL.out, hin])
        clear hin
        go_wp2_with fail
        go_ret
        exact ⟨by rw [F2.out]; rfl, B⟩
end Job
end Go.Proofs.YtbgiegecfapmlaaGreatDoor
