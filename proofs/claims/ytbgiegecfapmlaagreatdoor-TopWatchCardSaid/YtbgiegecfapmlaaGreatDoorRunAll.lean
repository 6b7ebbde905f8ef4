/- robust.Run, whole: what it makes of jobs; conditions: good jobs, at most a dozen, the library's tables as its text lays them. -/
import Derived.Test.YtbgiegecfapmlaaGreatDoorRunRun
import Derived.Test.YtbgiegecfapmlaaGreatDoorJobs2
namespace Go.Proofs.YtbgiegecfapmlaaGreatDoor
open Go.RowKit
set_option linter.unusedVariables false
set_option linter.unusedSimpArgs false
namespace Rob
open Job (jc jv)
section
variable {base : Nat} {w0 w w' : World} {d : Adr} {js : List J} {s : St} {now : Int} {a : Nat}
theorem infoJ' : (Tryz.prog.info? 36).map (fun i => (i.zero, i.size, i.bytes)) = some (some (.agg #[.string ByteArray.empty, .int .i64 0, .int .i64 0, .int .i64 0, .int .i64 0, .int .i64 0, .int .i64 0, .bool false]), 8, 72) := by kernel_rfl
theorem infoJ : ∃ i, Tryz.prog.info? 36 = some i ∧ i.zero = some (.agg #[.string ByteArray.empty, .int .i64 0, .int .i64 0, .int .i64 0, .int .i64 0, .int .i64 0, .int .i64 0, .bool false]) ∧ i.size = 8 ∧ i.bytes = 72 := by
  have h := infoJ'
  cases hi : Tryz.prog.info? 36 with
  | none => rw [hi] at h; cases h
  | some i =>
    rw [hi] at h
    simp at h
    exact ⟨i, rfl, h.1, h.2.1, h.2.2⟩
theorem jc_len (x : J) : (jc x).length = 8 := rfl
theorem jc_one (x : J) : ∀ u ∈ jc x, u.oneCell' = true := by
  intro u hu
  simp [jc] at hu
  rcases hu with rfl | rfl | rfl | rfl | rfl | rfl | rfl | rfl <;> rfl
/-- Clone of jobs. -/
theorem clone_jobs {A : Option Addr} {c : Nat} (R : Row jc 8 w A js.length js) (hA : ∀ a, A = some a → ∃ b off, a = ⟨b, off, none⟩) (hn : js.length ≤ 1000) :
    Calls Tryz.prog 28 #[.slice A js.length c] w fun e w' => ∃ A' c', e = .returned (.slice A' js.length c') ∧ Row jc 8 w' A' js.length js ∧ (∀ a, A' = some a → w.heap.size ≤ a.block ∧ a.block < w'.heap.size) ∧ Below w.heap.size w w' := by
  cases A with
  | none =>
    have h0 : js = [] := by
      cases js with
      | nil => rfl
      | cons x l => obtain ⟨b, off, hA, _⟩ := R.2.2 (by simp); cases hA
    subst h0
    refine (AnyE.slices_Clone_nil Tryz.laysCloneJ 0 c w).mono ?_
    rintro e w' ⟨rfl, rfl⟩
    exact ⟨none, 0, rfl, ⟨rfl, by unfold maxLen; exact Nat.zero_le _, fun h => by simp at h⟩, fun a h => (by cases h), Below.refl _ _⟩
  | some ad =>
    obtain ⟨b, off, rfl⟩ := hA ad rfl
    obtain ⟨i0, hi, hz0, hz1, hz2⟩ := infoJ
    refine (AnyE.slices_Clone Tryz.laysCloneJ i0 _ 8 72 hi hz0 hz1 hz2 rfl (by omega) Tryz.sizeOf36 b off js.length c (js.flatMap jc) w (by rw [flat_length jc_len]) R.2.1 (by omega) (Row.flat jc_len (by omega) R) (by
      intro u hu
      obtain ⟨x, _, hx⟩ := List.mem_flatMap.1 hu
      exact jc_one x u hx)).mono ?_
    rintro e w' ⟨v', rfl, hown, _, hb⟩
    obtain ⟨A', c', rfl⟩ := own_shape hown
    have hlt := own_block_lt hown
    refine ⟨A', c', rfl, Row.of_own jc_len hown rfl R.2.1, fun a ha => ?_, hb⟩
    exact hlt a.block (ob_mem.2 (by rw [ha]; rfl))
theorem zeros_flat (n : Nat) : (List.replicate n (0 : Int)).flatMap (fun x => [iv x]) = (List.replicate n (0 : Int)).map iv := by
  induction n with
  | zero => rfl
  | succ n ih => simp only [List.replicate_succ, List.flatMap_cons, List.map_cons, ih]; rfl
theorem makes_ints (n : Nat) (hn : n ≤ 1000) (W : World) : (Instr.makeSlice 23 (.int .i64 (n : Int)) (.int .i64 (n : Int))).run Tryz.prog W = .ok (.slice (some ⟨W.heap.size, 0, none⟩) n n) (W.alloc (.cells ((List.replicate n (0 : Int)).map iv).toArray 3)) := by
  obtain ⟨i0, hi0, hz0, hz1, hz2⟩ := infoI
  have := run_make (P := Tryz.prog) (w := W) 23 3 i0 _ Tryz.underlying23 hi0 hz0 .i64 .i64 (n : Int) (n : Int) (by omega) (by omega) (by rw [hz2]; omega) (by omega)
  simp only [Int.toNat_natCast, hz1] at this
  rw [this]
  have := made_cells (cf := fun x : Int => [iv x]) (sz := 1) (fun _ => rfl) (by omega) (0 : Int) n
  rw [zeros_flat] at this
  simp only [Value.cells]
  rw [← this]; rfl
theorem infoF' : (Tryz.prog.info? 53).map (fun i => (i.zero, i.size, i.bytes)) = some (some (.agg #[.int .i64 0, .int .i64 0]), 2, 16) := by kernel_rfl
theorem infoF : ∃ i, Tryz.prog.info? 53 = some i ∧ i.zero = some (.agg #[.int .i64 0, .int .i64 0]) ∧ i.size = 2 ∧ i.bytes = 16 := by
  have h := infoF'
  cases hi : Tryz.prog.info? 53 with
  | none => rw [hi] at h; cases h
  | some i =>
    rw [hi] at h
    simp at h
    exact ⟨i, rfl, h.1, h.2.1, h.2.2⟩
theorem makes_fates (n : Nat) (hn : n ≤ 1000) (W : World) : (Instr.makeSlice 40 (.int .i64 (n : Int)) (.int .i64 (n : Int))).run Tryz.prog W = .ok (.slice (some ⟨W.heap.size, 0, none⟩) n n) (W.alloc (.cells ((List.replicate n ((0 : Int), (0 : Int))).flatMap fc).toArray 53)) := by
  obtain ⟨i0, hi0, hz0, hz1, hz2⟩ := infoF
  have := run_make (P := Tryz.prog) (w := W) 40 53 i0 _ Tryz.underlying40 hi0 hz0 .i64 .i64 (n : Int) (n : Int) (by omega) (by omega) (by rw [hz2]; omega) (by omega)
  simp only [Int.toNat_natCast, hz1] at this
  rw [this]
  have := made_cells fc_len (by omega) ((0 : Int), (0 : Int)) n
  simp only [Value.cells]
  rw [← this]; rfl
/-- A runner whose rows lie elsewhere. -/
def Adr.put (d : Adr) (tv sv av : Value) : Adr := { d with tv := tv, sv := sv, av := av }
/-- What lies ahead of the runner's box. -/
structure Born (w1 : World) (js : List J) (Aj : Option Addr) (gi gr : Nat) (w : World) : Prop where
  R : Row jc 8 w Aj js.length js
  C : ∀ a, Aj = some a → w1.heap.size ≤ a.block ∧ a.block < w.heap.size
  I : Blk w gi 3 ((List.replicate js.length (0 : Int)).map iv)
  G : Blk w gr 3 ((List.replicate js.length (0 : Int)).map iv)
  hi : w1.heap.size ≤ gi
  hr : w1.heap.size ≤ gr
  ai : ∀ a, Aj = some a → a.block ≠ gi
  ar : ∀ a, Aj = some a → a.block ≠ gr
  ir : gi ≠ gr
  B : Below w1.heap.size w1 w
theorem own_base {b1 b2 : Nat} {e : TypeId} {size n : Nat} {v : Value} {xs : List Value} (h : w.ownsRow b1 e size v n xs) (hb : b2 ≤ b1) : w.ownsRow b2 e size v n xs := by
  refine ⟨h.1, h.2.imp id fun ⟨g, cap, cur, hv, hg, hr⟩ => ⟨g, cap, cur, hv, Nat.le_trans hb hg, hr⟩⟩
/-- The runner, as it begins. -/
theorem Born.at_ {w1 wp : World} {Aj : Option Addr} {gi gr cj : Nat} (BN : Born w1 js Aj gi gr wp) (hn : js.length ≤ 12) {W5 : World}
    (hW : W5 = (wp.alloc (.cells #[.slice Aj js.length cj, .slice (some ⟨gi, 0, none⟩) js.length js.length, .slice (some ⟨gr, 0, none⟩) js.length js.length, .slice none 0 0, .slice (some ⟨wp.heap.size + 1, 0, none⟩) js.length js.length, .slice none 0 0, .slice none 0 0, .int .i64 0] 82)).alloc (.cells ((List.replicate js.length ((0 : Int), (0 : Int))).flatMap fc).toArray 53)) :
    At w1.heap.size W5 ⟨wp.heap.size, gi, gr, wp.heap.size + 1, Aj, cj, js.length, js.length, js.length, .slice none 0 0, .slice none 0 0, .slice none 0 0⟩ js (start js) 0 ∧ Below w1.heap.size w1 W5 := by
  have XP := (Blk.new wp 82 [.slice Aj js.length cj, .slice (some ⟨gi, 0, none⟩) js.length js.length, .slice (some ⟨gr, 0, none⟩) js.length js.length, .slice none 0 0, .slice (some ⟨wp.heap.size + 1, 0, none⟩) js.length js.length, .slice none 0 0, .slice none 0 0, .int .i64 0]).alloc (.cells ((List.replicate js.length ((0 : Int), (0 : Int))).flatMap fc).toArray 53)
  have K : Keeps (fun _ => False) wp W5 := by
    rw [hW]; exact ((Keeps.refl _ wp).alloc _).alloc _
  have hb : Below wp.heap.size wp W5 := K.below (fun _ _ h => h)
  have hs5 : W5.heap.size = wp.heap.size + 2 := by rw [hW]; simp
  have FB : Blk W5 (wp.heap.size + 1) 53 ((List.replicate js.length ((0 : Int), (0 : Int))).flatMap fc) := by
    rw [hW]
    have h1 := Blk.new (wp.alloc (.cells #[.slice Aj js.length cj, .slice (some ⟨gi, 0, none⟩) js.length js.length, .slice (some ⟨gr, 0, none⟩) js.length js.length, .slice none 0 0, .slice (some ⟨wp.heap.size + 1, 0, none⟩) js.length js.length, .slice none 0 0, .slice none 0 0, .int .i64 0] 82)) 53 ((List.replicate js.length ((0 : Int), (0 : Int))).flatMap fc)
    rw [show (wp.alloc (.cells #[.slice Aj js.length cj, .slice (some ⟨gi, 0, none⟩) js.length js.length, .slice (some ⟨gr, 0, none⟩) js.length js.length, .slice none 0 0, .slice (some ⟨wp.heap.size + 1, 0, none⟩) js.length js.length, .slice none 0 0, .slice none 0 0, .int .i64 0] 82)).heap.size = wp.heap.size + 1 by simp] at h1
    exact h1
  have hgi := BN.I.lt
  have hgr := BN.G.lt
  have hsz := BN.B.size
  refine ⟨?_, BN.B.trans (hb.mono hsz)⟩
  have hnil : W5.ownsRow w1.heap.size 3 1 (.slice none 0 0) 0 [] := ⟨rfl, .inl ⟨rfl, rfl⟩⟩
  constructor
  · rw [hW]; exact XP
  · exact Row.below BN.R hb
  · exact blk_below BN.I hb
  · exact blk_below BN.G hb
  · exact FB
  · simp [start]
  · simp [start]
  · simp [start]
  · exact hnil
  · exact hnil
  · exact hnil
  · cases Aj with
    | none => simp [Adr.blocks, ob, Value.ownBlock]; have := BN.ir; omega
    | some ad =>
      have h1 := BN.C ad rfl
      have h2 := BN.ai ad rfl
      have h3 := BN.ar ad rfl
      have h4 := BN.ir
      simp [Adr.blocks, ob, Value.ownBlock]; omega
  · intro b hb'
    have h1 := BN.hi
    have h2 := BN.hr
    cases Aj with
    | none => simp [Adr.blocks, ob, Value.ownBlock] at hb'; omega
    | some ad => have h3 := BN.C ad rfl; simp [Adr.blocks, ob, Value.ownBlock] at hb'; omega
  · intro b hb'
    cases Aj with
    | none => simp [Adr.blocks, ob, Value.ownBlock] at hb'; omega
    | some ad => have h3 := BN.C ad rfl; simp [Adr.blocks, ob, Value.ownBlock] at hb'; omega
  · exact hn
theorem endTo_bd (hg : Goods js) (n : Nat) : 0 ≤ Job.endTo js n ∧ Job.endTo js n ≤ 10000 :=
  Job.endTo_le (by omega) (fun x hx => (Job.good_ok (hg x hx).1).most) n
theorem eend_bd (hg : Goods js) : 0 ≤ Job.eend js ∧ Job.eend js ≤ 10000 := by
  unfold Job.eend
  split
  · exact endTo_bd hg _
  · omega
set_option maxRecDepth 100000 in
set_option maxHeartbeats 8000000 in
theorem run_all {A : Option Addr} {c : Nat} (T : Tabs w) (R : Row jc 8 w A js.length js) (hA : ∀ a, A = some a → ∃ b off, a = ⟨b, off, none⟩) (hg : Goods js) (hall : Job.all js = true) (hn : js.length ≤ 12) :
    Calls Tryz.prog 16 #[.slice A js.length c] w fun e w' => ∃ tv gf A2 n2 c2 A3 n3 c3, e = .returned (.tuple #[.agg #[tv, .slice (some ⟨gf, 0, none⟩) js.length js.length, .slice A2 n2 c2, .slice A3 n3 c3], .int .i64 0]) ∧
      w'.ownsRow w.heap.size 3 1 tv (result js (Job.eend js).toNat).tr.length ((result js (Job.eend js).toNat).tr.map iv) ∧ Blk w' gf 53 ((result js (Job.eend js).toNat).fs.flatMap fc) ∧ w.heap.size ≤ gf ∧ (result js (Job.eend js).toNat).fs.length = js.length ∧ Below w.heap.size w w' := by
  have hns : ∀ x ∈ js, x.nm.size < 4611686018427387904 := fun x hx => (hg x hx).2
  have hmI := fun W => makes_ints js.length (by omega) W
  have hmF := fun W => makes_fates js.length (by omega) W
  have bO := (Below.refl w.heap.size w).alloc (Nat.le_refl _) (.cells #[.slice none 0 0, .slice none 0 0, .slice none 0 0, .slice none 0 0] 49)
  have XO := Blk.new w 49 [.slice none 0 0, .slice none 0 0, .slice none 0 0, .slice none 0 0]
  have R1 := Row.below R bO
  have T1 := T.below bO
  have hOl := XO.lt
  obtain ⟨Z, hZ⟩ : ∃ Z, Z = (List.replicate js.length (0 : Int)).map iv := ⟨_, rfl⟩
  obtain ⟨Za, hZa⟩ : ∃ Za, Za = Z.toArray := ⟨_, rfl⟩
  rw [← hZ, ← hZa] at hmI
  obtain ⟨Ya, hYa⟩ : ∃ Ya, Ya = ((List.replicate js.length ((0 : Int), (0 : Int))).flatMap fc).toArray := ⟨_, rfl⟩
  rw [← hYa] at hmF
  have HZ := Lib.hid hZ
  have HZa := Lib.hid hZa
  have HYa := Lib.hid hYa
  have HBO := Lib.hid bO
  have HXO := Lib.hid XO
  have HR1 := Lib.hid R1
  have HT1 := Lib.hid T1
  have HOL := Lib.hid hOl
  have HNS := Lib.hid hns
  have HALL := Lib.hid hall
  have HG := Lib.hid hg
  have HA := Lib.hid hA
  clear hns bO XO R1 T1 hOl hZ hZa hYa hall hg hA T R
  go_enter Tryz.func16, Tryz.ntmps16
  go_upto_region 1 with fail
  generalize w.alloc (.cells #[.slice none 0 0, .slice none 0 0, .slice none 0 0, .slice none 0 0] 49) = w1 at *
  have CA := Job.all_is (c := c) HT1.out HR1.out HNS.out
  rw [HALL.out] at CA
  go_upto_region 3 with (go_at_call 22; refine CA.mono ?_; rintro e w2 ⟨rfl, hb2⟩)
  have HB2 := Lib.hid hb2
  have HCL := Lib.hid (fun W (hb : Below w1.heap.size w1 W) => clone_jobs (c := c) (Row.below HR1.out hb) HA.out (by omega))
  clear CA hb2
  go_cut [4] (fun v wx => ∃ (wp : World) (Aj : Option Addr) (cj gi gr : Nat), v = .pointer (some ⟨wp.heap.size, 0, none⟩) ∧ wx = wp.alloc (.cells #[.slice Aj js.length cj, .slice (some ⟨gi, 0, none⟩) js.length js.length, .slice (some ⟨gr, 0, none⟩) js.length js.length, .slice none 0 0, .slice none 0 0, .slice none 0 0, .slice none 0 0, .int .i64 0] 82) ∧ Born w1 js Aj gi gr wp)
  case first =>
    have B3 : Below w1.heap.size w1 w2.drew := HB2.out.trans ((below_drew w2).mono HB2.out.size)
    refine wp_region_held_drew (S := fun _ => True) (by kernel_rfl) trivial (fun hHeld => ?_)
    generalize w2.drew = w3 at *
    refine wpAnyH_take (i := 0) (oi := ⟨some 13, _, _, _, _, _⟩) (v := ?_) rfl (by kernel_rfl) (by kernel_rfl) (by kernel_rfl) (fun _ _ _ h => h) (Or.inl ⟨by kernel_rfl, ?_⟩) (by assumption) ?_
    rotate_left
    · intro w hSw; (try dsimp only at hSw); go_simp; try with_reducible rfl
    rotate_left
    try simp only [Act.put, List.setIfInBounds_toArray, List.set_cons_zero, List.set_cons_succ]
    refine wpAnyH_take (i := 2) (oi := ⟨some 15, _, _, _, _, _⟩) (v := ?_) rfl (by kernel_rfl) (by kernel_rfl) (by kernel_rfl) (fun _ _ _ h => h) (Or.inl ⟨by kernel_rfl, ?_⟩) (by assumption) ?_
    rotate_left
    · intro w hSw; (try dsimp only at hSw); go_simp; try with_reducible rfl
    rotate_left
    try simp only [Act.put, List.setIfInBounds_toArray, List.set_cons_zero, List.set_cons_succ]
    refine wpAnyH_take (i := 3) (oi := ⟨some 16, _, _, _, _, _⟩) (v := ?_) rfl (by kernel_rfl) (by kernel_rfl) (by kernel_rfl) (fun _ _ _ h => h) (Or.inl ⟨by kernel_rfl, ?_⟩) (by assumption) ?_
    rotate_left
    · intro w hSw; (try dsimp only at hSw); go_simp; try with_reducible rfl
    rotate_left
    try simp only [Act.put, List.setIfInBounds_toArray, List.set_cons_zero, List.set_cons_succ]
    refine wpAnyH_take (i := 5) (oi := ⟨some 18, _, _, _, _, _⟩) (v := ?_) rfl (by kernel_rfl) (by kernel_rfl) (by kernel_rfl) (fun _ _ _ h => h) (Or.inl ⟨by kernel_rfl, ?_⟩) (by assumption) ?_
    rotate_left
    · intro w hSw; (try dsimp only at hSw); go_simp; try with_reducible rfl
    rotate_left
    try simp only [Act.put, List.setIfInBounds_toArray, List.set_cons_zero, List.set_cons_succ]
    refine wpAnyH_take (i := 6) (oi := ⟨some 19, _, _, _, _, _⟩) (v := ?_) rfl (by kernel_rfl) (by kernel_rfl) (by kernel_rfl) (fun _ _ _ h => h) (Or.inl ⟨by kernel_rfl, ?_⟩) (by assumption) ?_
    rotate_left
    · intro w hSw; (try dsimp only at hSw); go_simp; try with_reducible rfl
    rotate_left
    try simp only [Act.put, List.setIfInBounds_toArray, List.set_cons_zero, List.set_cons_succ]
    refine wpAnyH_ready (rs := [1, 4, 7]) (by kernel_rfl) (by simp) ?_
    refine AllReadyH.cons (o := ⟨some 14, _, _, _, _, _⟩) rfl (fun K hK => ?_) (AllReadyH.cons (o := ⟨some 17, _, _, _, _, _⟩) rfl (fun K hK => ?_) (AllReadyH.cons (o := ⟨some 20, _, _, _, _, _⟩) rfl (fun K hK => ?_) AllReadyH.nil))
    · skip
      go_simp
      refine (HCL.out w3 B3).mono ?_
      rintro e w4 ⟨Aj, cj, rfl, R4, cc, ba⟩
      have C4 := fun a ha => (show w1.heap.size ≤ Addr.block a ∧ Addr.block a < w4.heap.size from ⟨Nat.le_trans B3.size (cc a ha).1, (cc a ha).2⟩)
      have B4 := B3.trans (ba.mono B3.size)
      clear cc ba
      go_wp2_with fail
      refine hK.out _ _ trivial (fun hHeld => ?_)
      clear hK K
      try simp only [Act.put, List.setIfInBounds_toArray, List.set_cons_zero, List.set_cons_succ]
      refine wpAnyH_ready (rs := [4, 7]) (by kernel_rfl) (by simp) ?_
      refine AllReadyH.cons (o := ⟨some 17, _, _, _, _, _⟩) rfl (fun K hK => ?_) (AllReadyH.cons (o := ⟨some 20, _, _, _, _, _⟩) rfl (fun K hK => ?_) AllReadyH.nil)
      · skip
        go_simp
        have ba := (Below.refl w4.heap.size w4).alloc (Nat.le_refl _) (.cells Za 3)
        have I5 : Blk (w4.alloc (.cells Za 3)) w4.heap.size 3 ((List.replicate js.length (0 : Int)).map iv) := by rw [HZa.out, HZ.out]; exact Blk.new w4 3 _
        have hgi : w1.heap.size ≤ w4.heap.size := B4.size
        have B5 := B4.trans (ba.mono B4.size)
        have R5 := Row.below R4 ba
        have C5 := fun a ha => (show w1.heap.size ≤ Addr.block a ∧ Addr.block a < _ from ⟨(C4 a ha).1, Nat.lt_of_lt_of_le (C4 a ha).2 ba.size⟩)
        have dai := fun a ha (e : Addr.block a = w4.heap.size) => (show False by have := (C4 a ha).2; omega)
        clear ba
        clear B4 R4 C4
        generalize w4.alloc (.cells Za 3) = w5 at *
        generalize w4.heap.size = gi at *
        refine hK.out _ _ trivial (fun hHeld => ?_)
        clear hK K
        try simp only [Act.put, List.setIfInBounds_toArray, List.set_cons_zero, List.set_cons_succ]
        refine wpAnyH_ready (rs := [7]) (by kernel_rfl) (by simp) ?_
        refine AllReadyH.cons (o := ⟨some 20, _, _, _, _, _⟩) rfl (fun K hK => ?_) AllReadyH.nil
        · skip
          go_simp
          have ba := (Below.refl w5.heap.size w5).alloc (Nat.le_refl _) (.cells Za 3)
          have G6 : Blk (w5.alloc (.cells Za 3)) w5.heap.size 3 ((List.replicate js.length (0 : Int)).map iv) := by rw [HZa.out, HZ.out]; exact Blk.new w5 3 _
          have hgr : w1.heap.size ≤ w5.heap.size := B5.size
          have B6 := B5.trans (ba.mono B5.size)
          have R6 := Row.below R5 ba
          have C6 := fun a ha => (show w1.heap.size ≤ Addr.block a ∧ Addr.block a < _ from ⟨(C5 a ha).1, Nat.lt_of_lt_of_le (C5 a ha).2 ba.size⟩)
          have I6 := blk_below I5 ba
          have dar := fun a ha (e : Addr.block a = w5.heap.size) => (show False by have := (C5 a ha).2; omega)
          have dir : gi ≠ w5.heap.size := Nat.ne_of_lt I5.lt
          clear ba
          clear B5 R5 C5 I5
          generalize w5.alloc (.cells Za 3) = w6 at *
          generalize w5.heap.size = gr at *
          refine hK.out _ _ trivial (fun hHeld => ?_)
          clear hK K
          try simp only [Act.put, List.setIfInBounds_toArray, List.set_cons_zero, List.set_cons_succ]
          refine wpAnyH_take (i := 8) (oi := ⟨some 21, _, _, _, _, _⟩) (v := ?_) rfl (by kernel_rfl) (by kernel_rfl) (by kernel_rfl) (fun _ _ _ h => h) (Or.inl ⟨by kernel_rfl, ?_⟩) (by assumption) ?_
          rotate_left
          · intro w hSw; (try dsimp only at hSw); go_simp; try with_reducible rfl
          rotate_left
          try simp only [Act.put, List.setIfInBounds_toArray, List.set_cons_zero, List.set_cons_succ]
          refine wpAnyH_ready (rs := [9]) (by kernel_rfl) (by simp) ?_
          refine AllReadyH.cons (o := ⟨some 22, _, _, _, _, _⟩) rfl (fun K hK => ?_) AllReadyH.nil
          go_simp
          refine hK.out _ _ trivial (fun hHeld => ?_)
          clear hK K
          try simp only [Act.put, List.setIfInBounds_toArray, List.set_cons_zero, List.set_cons_succ]
          refine wpAnyH_take (i := 10) (oi := ⟨some 4, _, _, _, _, _⟩) (v := ?_) rfl (by kernel_rfl) (by kernel_rfl) (by kernel_rfl) (fun _ _ _ h => h) (Or.inl ⟨by kernel_rfl, ?_⟩) (by assumption) ?_
          rotate_left
          · intro w hSw; (try dsimp only at hSw); go_simp; try with_reducible rfl
          rotate_left
          try simp only [Act.put, List.setIfInBounds_toArray, List.set_cons_zero, List.set_cons_succ]
          refine wpAnyH_done (by kernel_rfl) ?_ _
          go_wp2_with fail
          go_meet
          case rel =>
            exact ⟨w6, Aj, cj, gi, gr, rfl, rfl, ⟨R6, C6, I6, G6, hgi, hgr, dai, dar, dir, B6⟩⟩
      · skip
        go_simp
        have ba := (Below.refl w4.heap.size w4).alloc (Nat.le_refl _) (.cells Za 3)
        have G5 : Blk (w4.alloc (.cells Za 3)) w4.heap.size 3 ((List.replicate js.length (0 : Int)).map iv) := by rw [HZa.out, HZ.out]; exact Blk.new w4 3 _
        have hgr : w1.heap.size ≤ w4.heap.size := B4.size
        have B5 := B4.trans (ba.mono B4.size)
        have R5 := Row.below R4 ba
        have C5 := fun a ha => (show w1.heap.size ≤ Addr.block a ∧ Addr.block a < _ from ⟨(C4 a ha).1, Nat.lt_of_lt_of_le (C4 a ha).2 ba.size⟩)
        have dar := fun a ha (e : Addr.block a = w4.heap.size) => (show False by have := (C4 a ha).2; omega)
        clear ba
        clear B4 R4 C4
        generalize w4.alloc (.cells Za 3) = w5 at *
        generalize w4.heap.size = gr at *
        refine hK.out _ _ trivial (fun hHeld => ?_)
        clear hK K
        try simp only [Act.put, List.setIfInBounds_toArray, List.set_cons_zero, List.set_cons_succ]
        refine wpAnyH_ready (rs := [4]) (by kernel_rfl) (by simp) ?_
        refine AllReadyH.cons (o := ⟨some 17, _, _, _, _, _⟩) rfl (fun K hK => ?_) AllReadyH.nil
        · skip
          go_simp
          have ba := (Below.refl w5.heap.size w5).alloc (Nat.le_refl _) (.cells Za 3)
          have I6 : Blk (w5.alloc (.cells Za 3)) w5.heap.size 3 ((List.replicate js.length (0 : Int)).map iv) := by rw [HZa.out, HZ.out]; exact Blk.new w5 3 _
          have hgi : w1.heap.size ≤ w5.heap.size := B5.size
          have B6 := B5.trans (ba.mono B5.size)
          have R6 := Row.below R5 ba
          have C6 := fun a ha => (show w1.heap.size ≤ Addr.block a ∧ Addr.block a < _ from ⟨(C5 a ha).1, Nat.lt_of_lt_of_le (C5 a ha).2 ba.size⟩)
          have G6 := blk_below G5 ba
          have dai := fun a ha (e : Addr.block a = w5.heap.size) => (show False by have := (C5 a ha).2; omega)
          have dir : w5.heap.size ≠ gr := Nat.ne_of_gt G5.lt
          clear ba
          clear B5 R5 C5 G5
          generalize w5.alloc (.cells Za 3) = w6 at *
          generalize w5.heap.size = gi at *
          refine hK.out _ _ trivial (fun hHeld => ?_)
          clear hK K
          try simp only [Act.put, List.setIfInBounds_toArray, List.set_cons_zero, List.set_cons_succ]
          refine wpAnyH_take (i := 8) (oi := ⟨some 21, _, _, _, _, _⟩) (v := ?_) rfl (by kernel_rfl) (by kernel_rfl) (by kernel_rfl) (fun _ _ _ h => h) (Or.inl ⟨by kernel_rfl, ?_⟩) (by assumption) ?_
          rotate_left
          · intro w hSw; (try dsimp only at hSw); go_simp; try with_reducible rfl
          rotate_left
          try simp only [Act.put, List.setIfInBounds_toArray, List.set_cons_zero, List.set_cons_succ]
          refine wpAnyH_ready (rs := [9]) (by kernel_rfl) (by simp) ?_
          refine AllReadyH.cons (o := ⟨some 22, _, _, _, _, _⟩) rfl (fun K hK => ?_) AllReadyH.nil
          go_simp
          refine hK.out _ _ trivial (fun hHeld => ?_)
          clear hK K
          try simp only [Act.put, List.setIfInBounds_toArray, List.set_cons_zero, List.set_cons_succ]
          refine wpAnyH_take (i := 10) (oi := ⟨some 4, _, _, _, _, _⟩) (v := ?_) rfl (by kernel_rfl) (by kernel_rfl) (by kernel_rfl) (fun _ _ _ h => h) (Or.inl ⟨by kernel_rfl, ?_⟩) (by assumption) ?_
          rotate_left
          · intro w hSw; (try dsimp only at hSw); go_simp; try with_reducible rfl
          rotate_left
          try simp only [Act.put, List.setIfInBounds_toArray, List.set_cons_zero, List.set_cons_succ]
          refine wpAnyH_done (by kernel_rfl) ?_ _
          go_wp2_with fail
          go_meet
          case rel =>
            exact ⟨w6, Aj, cj, gi, gr, rfl, rfl, ⟨R6, C6, I6, G6, hgi, hgr, dai, dar, dir, B6⟩⟩
    · skip
      go_simp
      have ba := (Below.refl w3.heap.size w3).alloc (Nat.le_refl _) (.cells Za 3)
      have I4 : Blk (w3.alloc (.cells Za 3)) w3.heap.size 3 ((List.replicate js.length (0 : Int)).map iv) := by rw [HZa.out, HZ.out]; exact Blk.new w3 3 _
      have hgi : w1.heap.size ≤ w3.heap.size := B3.size
      have B4 := B3.trans (ba.mono B3.size)
      clear ba
      clear B3
      generalize w3.alloc (.cells Za 3) = w4 at *
      generalize w3.heap.size = gi at *
      refine hK.out _ _ trivial (fun hHeld => ?_)
      clear hK K
      try simp only [Act.put, List.setIfInBounds_toArray, List.set_cons_zero, List.set_cons_succ]
      refine wpAnyH_ready (rs := [1, 7]) (by kernel_rfl) (by simp) ?_
      refine AllReadyH.cons (o := ⟨some 14, _, _, _, _, _⟩) rfl (fun K hK => ?_) (AllReadyH.cons (o := ⟨some 20, _, _, _, _, _⟩) rfl (fun K hK => ?_) AllReadyH.nil)
      · skip
        go_simp
        refine (HCL.out w4 B4).mono ?_
        rintro e w5 ⟨Aj, cj, rfl, R5, cc, ba⟩
        have C5 := fun a ha => (show w1.heap.size ≤ Addr.block a ∧ Addr.block a < w5.heap.size from ⟨Nat.le_trans B4.size (cc a ha).1, (cc a ha).2⟩)
        have B5 := B4.trans (ba.mono B4.size)
        have I5 := blk_below I4 ba
        have dai := fun a ha (e : Addr.block a = gi) => (show False by have := (cc a ha).1; have := I4.lt; omega)
        clear cc ba
        go_wp2_with fail
        refine hK.out _ _ trivial (fun hHeld => ?_)
        clear hK K
        try simp only [Act.put, List.setIfInBounds_toArray, List.set_cons_zero, List.set_cons_succ]
        refine wpAnyH_ready (rs := [7]) (by kernel_rfl) (by simp) ?_
        refine AllReadyH.cons (o := ⟨some 20, _, _, _, _, _⟩) rfl (fun K hK => ?_) AllReadyH.nil
        · skip
          go_simp
          have ba := (Below.refl w5.heap.size w5).alloc (Nat.le_refl _) (.cells Za 3)
          have G6 : Blk (w5.alloc (.cells Za 3)) w5.heap.size 3 ((List.replicate js.length (0 : Int)).map iv) := by rw [HZa.out, HZ.out]; exact Blk.new w5 3 _
          have hgr : w1.heap.size ≤ w5.heap.size := B5.size
          have B6 := B5.trans (ba.mono B5.size)
          have R6 := Row.below R5 ba
          have C6 := fun a ha => (show w1.heap.size ≤ Addr.block a ∧ Addr.block a < _ from ⟨(C5 a ha).1, Nat.lt_of_lt_of_le (C5 a ha).2 ba.size⟩)
          have I6 := blk_below I5 ba
          have dar := fun a ha (e : Addr.block a = w5.heap.size) => (show False by have := (C5 a ha).2; omega)
          have dir : gi ≠ w5.heap.size := Nat.ne_of_lt I5.lt
          clear ba
          clear B5 R5 C5 I5
          generalize w5.alloc (.cells Za 3) = w6 at *
          generalize w5.heap.size = gr at *
          refine hK.out _ _ trivial (fun hHeld => ?_)
          clear hK K
          try simp only [Act.put, List.setIfInBounds_toArray, List.set_cons_zero, List.set_cons_succ]
          refine wpAnyH_take (i := 8) (oi := ⟨some 21, _, _, _, _, _⟩) (v := ?_) rfl (by kernel_rfl) (by kernel_rfl) (by kernel_rfl) (fun _ _ _ h => h) (Or.inl ⟨by kernel_rfl, ?_⟩) (by assumption) ?_
          rotate_left
          · intro w hSw; (try dsimp only at hSw); go_simp; try with_reducible rfl
          rotate_left
          try simp only [Act.put, List.setIfInBounds_toArray, List.set_cons_zero, List.set_cons_succ]
          refine wpAnyH_ready (rs := [9]) (by kernel_rfl) (by simp) ?_
          refine AllReadyH.cons (o := ⟨some 22, _, _, _, _, _⟩) rfl (fun K hK => ?_) AllReadyH.nil
          go_simp
          refine hK.out _ _ trivial (fun hHeld => ?_)
          clear hK K
          try simp only [Act.put, List.setIfInBounds_toArray, List.set_cons_zero, List.set_cons_succ]
          refine wpAnyH_take (i := 10) (oi := ⟨some 4, _, _, _, _, _⟩) (v := ?_) rfl (by kernel_rfl) (by kernel_rfl) (by kernel_rfl) (fun _ _ _ h => h) (Or.inl ⟨by kernel_rfl, ?_⟩) (by assumption) ?_
          rotate_left
          · intro w hSw; (try dsimp only at hSw); go_simp; try with_reducible rfl
          rotate_left
          try simp only [Act.put, List.setIfInBounds_toArray, List.set_cons_zero, List.set_cons_succ]
          refine wpAnyH_done (by kernel_rfl) ?_ _
          go_wp2_with fail
          go_meet
          case rel =>
            exact ⟨w6, Aj, cj, gi, gr, rfl, rfl, ⟨R6, C6, I6, G6, hgi, hgr, dai, dar, dir, B6⟩⟩
      · skip
        go_simp
        have ba := (Below.refl w4.heap.size w4).alloc (Nat.le_refl _) (.cells Za 3)
        have G5 : Blk (w4.alloc (.cells Za 3)) w4.heap.size 3 ((List.replicate js.length (0 : Int)).map iv) := by rw [HZa.out, HZ.out]; exact Blk.new w4 3 _
        have hgr : w1.heap.size ≤ w4.heap.size := B4.size
        have B5 := B4.trans (ba.mono B4.size)
        have I5 := blk_below I4 ba
        have dir : gi ≠ w4.heap.size := Nat.ne_of_lt I4.lt
        clear ba
        clear B4 I4
        generalize w4.alloc (.cells Za 3) = w5 at *
        generalize w4.heap.size = gr at *
        refine hK.out _ _ trivial (fun hHeld => ?_)
        clear hK K
        try simp only [Act.put, List.setIfInBounds_toArray, List.set_cons_zero, List.set_cons_succ]
        refine wpAnyH_ready (rs := [1]) (by kernel_rfl) (by simp) ?_
        refine AllReadyH.cons (o := ⟨some 14, _, _, _, _, _⟩) rfl (fun K hK => ?_) AllReadyH.nil
        · skip
          go_simp
          refine (HCL.out w5 B5).mono ?_
          rintro e w6 ⟨Aj, cj, rfl, R6, cc, ba⟩
          have C6 := fun a ha => (show w1.heap.size ≤ Addr.block a ∧ Addr.block a < w6.heap.size from ⟨Nat.le_trans B5.size (cc a ha).1, (cc a ha).2⟩)
          have B6 := B5.trans (ba.mono B5.size)
          have I6 := blk_below I5 ba
          have G6 := blk_below G5 ba
          have dai := fun a ha (e : Addr.block a = gi) => (show False by have := (cc a ha).1; have := I5.lt; omega)
          have dar := fun a ha (e : Addr.block a = gr) => (show False by have := (cc a ha).1; have := G5.lt; omega)
          clear cc ba
          go_wp2_with fail
          refine hK.out _ _ trivial (fun hHeld => ?_)
          clear hK K
          try simp only [Act.put, List.setIfInBounds_toArray, List.set_cons_zero, List.set_cons_succ]
          refine wpAnyH_take (i := 8) (oi := ⟨some 21, _, _, _, _, _⟩) (v := ?_) rfl (by kernel_rfl) (by kernel_rfl) (by kernel_rfl) (fun _ _ _ h => h) (Or.inl ⟨by kernel_rfl, ?_⟩) (by assumption) ?_
          rotate_left
          · intro w hSw; (try dsimp only at hSw); go_simp; try with_reducible rfl
          rotate_left
          try simp only [Act.put, List.setIfInBounds_toArray, List.set_cons_zero, List.set_cons_succ]
          refine wpAnyH_ready (rs := [9]) (by kernel_rfl) (by simp) ?_
          refine AllReadyH.cons (o := ⟨some 22, _, _, _, _, _⟩) rfl (fun K hK => ?_) AllReadyH.nil
          go_simp
          refine hK.out _ _ trivial (fun hHeld => ?_)
          clear hK K
          try simp only [Act.put, List.setIfInBounds_toArray, List.set_cons_zero, List.set_cons_succ]
          refine wpAnyH_take (i := 10) (oi := ⟨some 4, _, _, _, _, _⟩) (v := ?_) rfl (by kernel_rfl) (by kernel_rfl) (by kernel_rfl) (fun _ _ _ h => h) (Or.inl ⟨by kernel_rfl, ?_⟩) (by assumption) ?_
          rotate_left
          · intro w hSw; (try dsimp only at hSw); go_simp; try with_reducible rfl
          rotate_left
          try simp only [Act.put, List.setIfInBounds_toArray, List.set_cons_zero, List.set_cons_succ]
          refine wpAnyH_done (by kernel_rfl) ?_ _
          go_wp2_with fail
          go_meet
          case rel =>
            exact ⟨w6, Aj, cj, gi, gr, rfl, rfl, ⟨R6, C6, I6, G6, hgi, hgr, dai, dar, dir, B6⟩⟩
    · skip
      go_simp
      have ba := (Below.refl w3.heap.size w3).alloc (Nat.le_refl _) (.cells Za 3)
      have G4 : Blk (w3.alloc (.cells Za 3)) w3.heap.size 3 ((List.replicate js.length (0 : Int)).map iv) := by rw [HZa.out, HZ.out]; exact Blk.new w3 3 _
      have hgr : w1.heap.size ≤ w3.heap.size := B3.size
      have B4 := B3.trans (ba.mono B3.size)
      clear ba
      clear B3
      generalize w3.alloc (.cells Za 3) = w4 at *
      generalize w3.heap.size = gr at *
      refine hK.out _ _ trivial (fun hHeld => ?_)
      clear hK K
      try simp only [Act.put, List.setIfInBounds_toArray, List.set_cons_zero, List.set_cons_succ]
      refine wpAnyH_ready (rs := [1, 4]) (by kernel_rfl) (by simp) ?_
      refine AllReadyH.cons (o := ⟨some 14, _, _, _, _, _⟩) rfl (fun K hK => ?_) (AllReadyH.cons (o := ⟨some 17, _, _, _, _, _⟩) rfl (fun K hK => ?_) AllReadyH.nil)
      · skip
        go_simp
        refine (HCL.out w4 B4).mono ?_
        rintro e w5 ⟨Aj, cj, rfl, R5, cc, ba⟩
        have C5 := fun a ha => (show w1.heap.size ≤ Addr.block a ∧ Addr.block a < w5.heap.size from ⟨Nat.le_trans B4.size (cc a ha).1, (cc a ha).2⟩)
        have B5 := B4.trans (ba.mono B4.size)
        have G5 := blk_below G4 ba
        have dar := fun a ha (e : Addr.block a = gr) => (show False by have := (cc a ha).1; have := G4.lt; omega)
        clear cc ba
        go_wp2_with fail
        refine hK.out _ _ trivial (fun hHeld => ?_)
        clear hK K
        try simp only [Act.put, List.setIfInBounds_toArray, List.set_cons_zero, List.set_cons_succ]
        refine wpAnyH_ready (rs := [4]) (by kernel_rfl) (by simp) ?_
        refine AllReadyH.cons (o := ⟨some 17, _, _, _, _, _⟩) rfl (fun K hK => ?_) AllReadyH.nil
        · skip
          go_simp
          have ba := (Below.refl w5.heap.size w5).alloc (Nat.le_refl _) (.cells Za 3)
          have I6 : Blk (w5.alloc (.cells Za 3)) w5.heap.size 3 ((List.replicate js.length (0 : Int)).map iv) := by rw [HZa.out, HZ.out]; exact Blk.new w5 3 _
          have hgi : w1.heap.size ≤ w5.heap.size := B5.size
          have B6 := B5.trans (ba.mono B5.size)
          have R6 := Row.below R5 ba
          have C6 := fun a ha => (show w1.heap.size ≤ Addr.block a ∧ Addr.block a < _ from ⟨(C5 a ha).1, Nat.lt_of_lt_of_le (C5 a ha).2 ba.size⟩)
          have G6 := blk_below G5 ba
          have dai := fun a ha (e : Addr.block a = w5.heap.size) => (show False by have := (C5 a ha).2; omega)
          have dir : w5.heap.size ≠ gr := Nat.ne_of_gt G5.lt
          clear ba
          clear B5 R5 C5 G5
          generalize w5.alloc (.cells Za 3) = w6 at *
          generalize w5.heap.size = gi at *
          refine hK.out _ _ trivial (fun hHeld => ?_)
          clear hK K
          try simp only [Act.put, List.setIfInBounds_toArray, List.set_cons_zero, List.set_cons_succ]
          refine wpAnyH_take (i := 8) (oi := ⟨some 21, _, _, _, _, _⟩) (v := ?_) rfl (by kernel_rfl) (by kernel_rfl) (by kernel_rfl) (fun _ _ _ h => h) (Or.inl ⟨by kernel_rfl, ?_⟩) (by assumption) ?_
          rotate_left
          · intro w hSw; (try dsimp only at hSw); go_simp; try with_reducible rfl
          rotate_left
          try simp only [Act.put, List.setIfInBounds_toArray, List.set_cons_zero, List.set_cons_succ]
          refine wpAnyH_ready (rs := [9]) (by kernel_rfl) (by simp) ?_
          refine AllReadyH.cons (o := ⟨some 22, _, _, _, _, _⟩) rfl (fun K hK => ?_) AllReadyH.nil
          go_simp
          refine hK.out _ _ trivial (fun hHeld => ?_)
          clear hK K
          try simp only [Act.put, List.setIfInBounds_toArray, List.set_cons_zero, List.set_cons_succ]
          refine wpAnyH_take (i := 10) (oi := ⟨some 4, _, _, _, _, _⟩) (v := ?_) rfl (by kernel_rfl) (by kernel_rfl) (by kernel_rfl) (fun _ _ _ h => h) (Or.inl ⟨by kernel_rfl, ?_⟩) (by assumption) ?_
          rotate_left
          · intro w hSw; (try dsimp only at hSw); go_simp; try with_reducible rfl
          rotate_left
          try simp only [Act.put, List.setIfInBounds_toArray, List.set_cons_zero, List.set_cons_succ]
          refine wpAnyH_done (by kernel_rfl) ?_ _
          go_wp2_with fail
          go_meet
          case rel =>
            exact ⟨w6, Aj, cj, gi, gr, rfl, rfl, ⟨R6, C6, I6, G6, hgi, hgr, dai, dar, dir, B6⟩⟩
      · skip
        go_simp
        have ba := (Below.refl w4.heap.size w4).alloc (Nat.le_refl _) (.cells Za 3)
        have I5 : Blk (w4.alloc (.cells Za 3)) w4.heap.size 3 ((List.replicate js.length (0 : Int)).map iv) := by rw [HZa.out, HZ.out]; exact Blk.new w4 3 _
        have hgi : w1.heap.size ≤ w4.heap.size := B4.size
        have B5 := B4.trans (ba.mono B4.size)
        have G5 := blk_below G4 ba
        have dir : w4.heap.size ≠ gr := Nat.ne_of_gt G4.lt
        clear ba
        clear B4 G4
        generalize w4.alloc (.cells Za 3) = w5 at *
        generalize w4.heap.size = gi at *
        refine hK.out _ _ trivial (fun hHeld => ?_)
        clear hK K
        try simp only [Act.put, List.setIfInBounds_toArray, List.set_cons_zero, List.set_cons_succ]
        refine wpAnyH_ready (rs := [1]) (by kernel_rfl) (by simp) ?_
        refine AllReadyH.cons (o := ⟨some 14, _, _, _, _, _⟩) rfl (fun K hK => ?_) AllReadyH.nil
        · skip
          go_simp
          refine (HCL.out w5 B5).mono ?_
          rintro e w6 ⟨Aj, cj, rfl, R6, cc, ba⟩
          have C6 := fun a ha => (show w1.heap.size ≤ Addr.block a ∧ Addr.block a < w6.heap.size from ⟨Nat.le_trans B5.size (cc a ha).1, (cc a ha).2⟩)
          have B6 := B5.trans (ba.mono B5.size)
          have I6 := blk_below I5 ba
          have G6 := blk_below G5 ba
          have dai := fun a ha (e : Addr.block a = gi) => (show False by have := (cc a ha).1; have := I5.lt; omega)
          have dar := fun a ha (e : Addr.block a = gr) => (show False by have := (cc a ha).1; have := G5.lt; omega)
          clear cc ba
          go_wp2_with fail
          refine hK.out _ _ trivial (fun hHeld => ?_)
          clear hK K
          try simp only [Act.put, List.setIfInBounds_toArray, List.set_cons_zero, List.set_cons_succ]
          refine wpAnyH_take (i := 8) (oi := ⟨some 21, _, _, _, _, _⟩) (v := ?_) rfl (by kernel_rfl) (by kernel_rfl) (by kernel_rfl) (fun _ _ _ h => h) (Or.inl ⟨by kernel_rfl, ?_⟩) (by assumption) ?_
          rotate_left
          · intro w hSw; (try dsimp only at hSw); go_simp; try with_reducible rfl
          rotate_left
          try simp only [Act.put, List.setIfInBounds_toArray, List.set_cons_zero, List.set_cons_succ]
          refine wpAnyH_ready (rs := [9]) (by kernel_rfl) (by simp) ?_
          refine AllReadyH.cons (o := ⟨some 22, _, _, _, _, _⟩) rfl (fun K hK => ?_) AllReadyH.nil
          go_simp
          refine hK.out _ _ trivial (fun hHeld => ?_)
          clear hK K
          try simp only [Act.put, List.setIfInBounds_toArray, List.set_cons_zero, List.set_cons_succ]
          refine wpAnyH_take (i := 10) (oi := ⟨some 4, _, _, _, _, _⟩) (v := ?_) rfl (by kernel_rfl) (by kernel_rfl) (by kernel_rfl) (fun _ _ _ h => h) (Or.inl ⟨by kernel_rfl, ?_⟩) (by assumption) ?_
          rotate_left
          · intro w hSw; (try dsimp only at hSw); go_simp; try with_reducible rfl
          rotate_left
          try simp only [Act.put, List.setIfInBounds_toArray, List.set_cons_zero, List.set_cons_succ]
          refine wpAnyH_done (by kernel_rfl) ?_ _
          go_wp2_with fail
          go_meet
          case rel =>
            exact ⟨w6, Aj, cj, gi, gr, rfl, rfl, ⟨R6, C6, I6, G6, hgi, hgr, dai, dar, dir, B6⟩⟩
  case rest =>
    obtain ⟨wp, Aj, cj, gi, gr, rfl, rfl, BN⟩ := hcut
    have XP := Blk.new wp 82 [.slice Aj js.length cj, .slice (some ⟨gi, 0, none⟩) js.length js.length, .slice (some ⟨gr, 0, none⟩) js.length js.length, .slice none 0 0, .slice none 0 0, .slice none 0 0, .slice none 0 0, .int .i64 0]
    have fp := ((XP.alloc (.cells Ya 53)).frozen)
    have hp4 := ((XP.alloc (.cells Ya 53)).cellAt (i := 4) rfl)
    obtain ⟨W5, hW5⟩ : ∃ W, W = (wp.alloc (.cells #[.slice Aj js.length cj, .slice (some ⟨gi, 0, none⟩) js.length js.length, .slice (some ⟨gr, 0, none⟩) js.length js.length, .slice none 0 0, .slice (some ⟨wp.heap.size + 1, 0, none⟩) js.length js.length, .slice none 0 0, .slice none 0 0, .int .i64 0] 82)).alloc (.cells Ya 53) := ⟨_, rfl⟩
    obtain ⟨h5, B5⟩ := BN.at_ hn (cj := cj) (W5 := W5) (by rw [hW5, HYa.out])
    have H5 := Lib.hid h5
    have HB5 := Lib.hid B5
    have HW5 := Lib.hid hW5
    clear XP BN h5 B5 hW5
    go_upto_region 5 with fail
    rw [← HW5.out]
    clear fp hp4 hmI hmF
    have CE := Job.end_is (c := c) (HT1.out.below HB5.out) (Row.below HR1.out HB5.out) HNS.out
    obtain ⟨e0, e1⟩ := eend_bd HG.out
    obtain ⟨E, hE⟩ := Int.eq_ofNat_of_zero_le e0
    rw [hE] at CE e1
    have HE := Lib.hid hE
    clear hE e0
    generalize wp.heap.size = p at *
    obtain ⟨d, hd, hdp, hdf⟩ : ∃ d : Adr, d = ⟨p, gi, gr, p + 1, Aj, cj, js.length, js.length, js.length, .slice none 0 0, .slice none 0 0, .slice none 0 0⟩ ∧ d.p = p ∧ d.gf = p + 1 ∧ d.cf = js.length := ⟨_, rfl, rfl, rfl, rfl⟩
    rw [← hd] at H5
    obtain ⟨hdf, hdc⟩ := hdf
    subst hdp
    have HDF := Lib.hid hdf
    have HDC := Lib.hid hdc
    clear hd hdf hdc HW5
    go_upto_region 6 with (go_at_call 29; refine CE.mono ?_; rintro e w6 ⟨rfl, hb6⟩)
    have h6 := H5.out.down hb6
    have B6 := HB5.out.trans (hb6.mono HB5.out.size)
    have fp := h6.B.frozen
    have c7 := h6.B.cellAt (i := 7) rfl
    obtain ⟨h7, k7⟩ := h6.tick 0
    have B7 := below_keeps B6 k7 B6.size (fun b hb => by rw [hb]; exact h6.ge _ (by simp [Adr.blocks]))
    have H7 := Lib.hid h7
    have HB7 := Lib.hid B7
    have hE2 : E ≤ 10000 := by omega
    clear CE hb6 h6 B6 h7 k7 B7 H5 HB5 HB2
    go_wp2_with fail
    go_loopg [] E (fun g wr => ∃ (t : Nat) (tv sv av : Value), t + g = E ∧ At w1.heap.size wr (d.put tv sv av) js (play js (start js) t) (t : Int) ∧ Below w1.heap.size w1 wr)
    case atStart => exact ⟨0, d.tv, d.sv, d.av, by omega, H7.out, HB7.out⟩
    case round =>
      clear fp c7 H7 HB7
      obtain ⟨t, tv, sv, av, ht, h, B⟩ := hrel
      have b7 : wr.cell? ⟨d.p, 7, none⟩ = some (.int .i64 (t : Int)) := h.B.cellAt (i := 7) rfl
      have H := Lib.hid h
      have HB := Lib.hid B
      have hns := HNS.out
      have BT := Lib.hid (Bnd.plays (js := js) HG.out.oks hn t)
      clear h B hns
      by_cases hlt : t < E
      · have hlti : (t : Int) < (E : Int) := by omega
        have CL := late_is HT1.out HB.out H.out HG.out (BT.out.small (by omega))
        go_upto_region 10 with (go_at_call 30; refine CL.mono ?_; rintro e w8 ⟨rfl, h8, B8⟩)
        have hst : play js (start js) (t + 1) = run js (t : Int) (arrs js (t : Int) (late js (t : Int) (play js (start js) t) js.length) js.length) := rfl
        have BT8 := Lib.hid (BT.out.late (t : Int) js.length)
        have HST := Lib.hid hst
        have H8 := Lib.hid h8
        have HB8 := Lib.hid B8
        have b0 : w8.cell? ⟨d.p, 0, none⟩ = some (.slice d.Aj js.length d.cj) := h8.B.cellAt (i := 0) rfl
        clear CL hst h8 B8 b7 H HB BT
        generalize late js (t : Int) (play js (start js) t) js.length = z at *
        go_wp2_with fail
        go_loopw [55] (fun v wr => ∃ (k : Nat) (sv : Value), k ≤ js.length ∧ v = .int .i64 (k : Int) ∧ At w1.heap.size wr (d.put tv sv av) js (arrs js (t : Int) z k) (t : Int) ∧ Below w1.heap.size w1 wr) (fun v _ => js.length - (intOf v).toNat)
        case atStart => exact ⟨0, sv, by omega, rfl, H8.out, HB8.out⟩
        case round =>
          clear b0 H8 HB8
          obtain ⟨k, sv, hk, rfl, h, B⟩ := hrel
          have BK := Lib.hid (BT8.out.arrs (t : Int) k)
          by_cases hkl : k < js.length
          · have hkli : (k : Int) < (js.length : Int) := by omega
            obtain ⟨b, off, x, hA', hx, hbl, c0, c1, c2, c3, c4, c5, c6, c7⟩ := Job.cells8 h.JR hkl
            have hA2 : d.Aj = some ⟨b, off, none⟩ := hA'
            have hi0 : (0 : Int) ≤ (k : Int) := by omega
            have hi1 : (k : Int) + 1 ≤ 9223372036854775807 := by omega
            have X := Job.Box.of (Blk.new wr 36 (jc x))
            have ba := (Below.refl wr.heap.size wr).alloc (Nat.le_refl _) (.cells (jc x).toArray 36)
            have B2 := B.trans (ba.mono B.size)
            have h2 := h.down ba
            have hrel1 : relAt js k = x.rel := by unfold relAt; rw [hx]; rfl
            have hst2 : arrs js (t : Int) z (k + 1) = if relAt js k = (t : Int) then arrive js (t : Int) (arrs js (t : Int) z k) k else arrs js (t : Int) z k := rfl
            rw [hrel1] at hst2
            unfold jc at X B2 h2
            obtain ⟨x0, x1, x2, x3, x4, x5, x6, x7⟩ := X
            have HST2 := Lib.hid hst2
            have hkn : k * (js.length + 1) ≤ 12 * 13 := Nat.mul_le_mul (by omega) (by omega)
            have HKN := Lib.hid hkn
            rw [hA2]
            clear hA' hA2 hx hbl ba hrel1 hst2 h B x0 x2 x3 x4 x5 x6 x7 hkn
            go_upto_region 13 with fail
            clear c0 c1 c2 c3 c4 c5 c6 c7
            generalize wr.alloc (.cells #[.string x.nm, .int .i64 x.rel, .int .i64 x.dl, .int .i64 x.bud, .int .i64 x.act, .int .i64 x.val, .int .i64 x.cln, .bool x.hard] 36) = W1 at *
            have b7 : W1.cell? ⟨d.p, 7, none⟩ = some (.int .i64 (t : Int)) := h2.B.cellAt (i := 7) rfl
            have H2 := Lib.hid h2
            have HB2 := Lib.hid B2
            clear h2 B2
            by_cases hq : x.rel = (t : Int)
            · have q1 : (x.rel == (t : Int)) = true := by simpa using hq
              have q2 : decide (x.rel = (t : Int)) = true := by simpa using hq
              have F : Hid (arrs js (t : Int) z (k + 1) = arrive js (t : Int) (arrs js (t : Int) z k) k) := Lib.hid (by rw [HST2.out, if_pos hq])
              clear hq
              go_quiet (fail)
              have K3 := (Keeps.refl (fun _ => False) W1).drewN nq
              have h3 := H2.out.down (K3.below (fun _ _ h => h))
              have B3 := HB2.out.trans ((K3.below (fun _ _ h => h)).mono HB2.out.size)
              have CA := arrive_is HT1.out B3 h3 HG.out (by omega) BK.out (by have := HKN.out; omega) hkl
              clear K3 h3 B3 x1 b7
              go_wp2_with (go_at_call 31; refine CA.mono ?_; rintro e w9 ⟨rfl, sv2, h9, B9⟩)
              have H9 := Lib.hid h9
              have HB9 := Lib.hid B9
              clear h9 B9 CA
              go_roundw
              case rel => exact ⟨k + 1, sv2, by omega, by simp, by rw [F.out]; exact H9.out, HB9.out⟩
              case measure => simp [intOf]; omega
            · have q1 : (x.rel == (t : Int)) = false := by simpa using hq
              have q2 : decide (x.rel = (t : Int)) = false := by simpa using hq
              have F : Hid (arrs js (t : Int) z (k + 1) = arrs js (t : Int) z k) := Lib.hid (by rw [HST2.out, if_neg hq])
              clear hq
              go_quiet (fail)
              have K3 := (Keeps.refl (fun _ => False) W1).drewN nq
              have H3 := Lib.hid (H2.out.down (K3.below (fun _ _ h => h)))
              have HB3 := Lib.hid (HB2.out.trans ((K3.below (fun _ _ h => h)).mono HB2.out.size))
              clear K3 x1 b7
              go_wp2_with fail
              go_roundw
              case rel => exact ⟨k + 1, sv, by omega, by simp, by rw [F.out]; exact H3.out, HB3.out⟩
              case measure => simp [intOf]; omega
          · have hkli : ¬ (k : Int) < (js.length : Int) := by omega
            have hkn : k = js.length := by omega
            subst hkn
            have hkn2 : js.length * (js.length + 1) ≤ 12 * 13 := Nat.mul_le_mul (by omega) (by omega)
            have CR := run_is HT1.out B h HG.out (by omega) BK.out (by omega)
            clear h B hkn2
            go_upto_region 8 with (go_at_call 32; refine CR.mono ?_; rintro e w9 ⟨rfl, tv2, av2, h9, B9⟩)
            rw [← HST.out] at h9
            have fp : ∀ i, w9.frozen? ⟨d.p, i, none⟩ = false := h9.B.frozen
            have c7 : w9.cell? ⟨d.p, 7, none⟩ = some (.int .i64 (t : Int)) := h9.B.cellAt (i := 7) rfl
            obtain ⟨h10, k10⟩ := h9.tick ((t : Int) + 1)
            have HB10 := Lib.hid (below_keeps B9 k10 B9.size (fun b hb => by rw [hb]; exact h9.ge _ (by simp [Adr.blocks, Adr.put])))
            have H10 := Lib.hid h10
            have hw : wrap64 ((t : Int) + 1) = (t : Int) + 1 := by unfold wrap64; omega
            clear CR h9 B9 h10 k10
            go_wp2_with fail
            go_roundg (gk - 1)
            case measure => omega
            case rel => exact ⟨t + 1, tv2, sv, av2, by omega, H10.out, HB10.out⟩
      · have hlti : ¬ (t : Int) < (E : Int) := by omega
        have htE : t = E := by omega
        subst htE
        go_wp2_with fail
        go_loopw [75] (fun v wr => ∃ k : Nat, k ≤ js.length ∧ v = .int .i64 (k : Int) ∧ At w1.heap.size wr (d.put tv sv av) js (lastTo (t : Int) (play js (start js) t) k) (t : Int) ∧ Below w1.heap.size w1 wr) (fun v _ => js.length - (intOf v).toNat)
        case atStart => exact ⟨0, by omega, rfl, H.out, HB.out⟩
        case round =>
          clear H HB
          obtain ⟨k, hk, rfl, h, B⟩ := hrel
          by_cases hkl : k < js.length
          · have hkli : (k : Int) < (js.length : Int) := by omega
            have hi0 : (0 : Int) ≤ (k : Int) := by omega
            have hi1 : (k : Int) + 1 ≤ 9223372036854775807 := by omega
            have hst2 : lastTo (t : Int) (play js (start js) t) (k + 1) = if opn (lastTo (t : Int) (play js (start js) t) k) k 2 = true then say (lastTo (t : Int) (play js (start js) t) k) k 3 (t : Int) else lastTo (t : Int) (play js (start js) t) k := rfl
            have OI := open_is h hkl 2
            have SI := say_is h hkl 3 0 (by omega)
            rw [Int.add_zero] at SI
            have hgf := Lib.hid (h.ge d.gf (by simp [Adr.blocks, Adr.put]))
            have HST2 := Lib.hid hst2
            have H := Lib.hid h
            have HB := Lib.hid B
            clear h B hst2
            cases ho : opn (lastTo (t : Int) (play js (start js) t) k) k 2 with
            | true =>
              rw [ho] at OI
              have F := Lib.hid (show lastTo (t : Int) (play js (start js) t) (k + 1) = say (lastTo (t : Int) (play js (start js) t) k) k 3 (t : Int) by rw [HST2.out, if_pos ho])
              clear ho
              go_wp2_with (first | (go_at_call 33; refine OI.mono ?_; rintro e w8 ⟨rfl, rfl⟩) | (go_at_call 34; refine SI.mono ?_; rintro e w9 ⟨rfl, h9, k9⟩))
              have H9 := Lib.hid h9
              have HB9 := Lib.hid (below_keeps HB.out k9 HB.out.size (fun b hb => by rw [hb]; exact hgf.out))
              clear h9 k9
              go_roundw
              case rel => exact ⟨k + 1, by omega, by simp, by rw [F.out]; exact H9.out, HB9.out⟩
              case measure => simp [intOf]; omega
            | false =>
              rw [ho] at OI
              have F := Lib.hid (show lastTo (t : Int) (play js (start js) t) (k + 1) = lastTo (t : Int) (play js (start js) t) k by rw [HST2.out, if_neg (by rw [ho]; simp)])
              clear ho
              go_wp2_with (go_at_call 33; refine OI.mono ?_; rintro e w8 ⟨rfl, rfl⟩)
              go_roundw
              case rel => exact ⟨k + 1, by omega, by simp, by rw [F.out]; exact H.out, HB.out⟩
              case measure => simp [intOf]; omega
          · have hkli : ¬ (k : Int) < (js.length : Int) := by omega
            have hkn : k = js.length := by omega
            subst hkn
            have hres : lastTo (t : Int) (play js (start js) t) js.length = result js (Job.eend js).toNat := by unfold result; rw [HE.out, Int.toNat_natCast]
            rw [hres] at h
            have XO := blk_below HXO.out B
            have fo := XO.frozen
            have o0 := XO.cellAt (i := 0) rfl
            have o1 := XO.cellAt (i := 1) rfl
            have o2 := XO.cellAt (i := 2) rfl
            have o3 := XO.cellAt (i := 3) rfl
            have p3 : wr.cell? ⟨d.p, 3, none⟩ = some tv := h.B.cellAt (i := 3) rfl
            have p4 : wr.cell? ⟨d.p, 4, none⟩ = some (.slice (some ⟨d.gf, 0, none⟩) js.length d.cf) := h.B.cellAt (i := 4) rfl
            have p5 : wr.cell? ⟨d.p, 5, none⟩ = some sv := h.B.cellAt (i := 5) rfl
            have p6 : wr.cell? ⟨d.p, 6, none⟩ = some av := h.B.cellAt (i := 6) rfl
            rw [HDC.out] at p4
            obtain ⟨A1, c1, e1⟩ := own_shape (v := tv) h.T
            obtain ⟨A2, c2, e2⟩ := own_shape (v := sv) h.S
            obtain ⟨A3, c3, e3⟩ := own_shape (v := av) h.A
            have H := Lib.hid h
            have HB := Lib.hid B
            have HXB := Lib.hid XO
            clear h B hres XO
            subst e1 e2 e3
            go_wp2_with fail
            have XE := (((HXB.out.set_ 0 (.slice A1 (result js (Job.eend js).toNat).tr.length c1)).set_ 1 (.slice (some ⟨d.gf, 0, none⟩) js.length js.length)).set_ 2 (.slice A2 (result js (Job.eend js).toNat).sh.length c2)).set_ 3 (.slice A3 (result js (Job.eend js).toNat).ag.length c3)
            have KE : Keeps (· = w.heap.size) wr ((((wr.setCell ⟨w.heap.size, 0, none⟩ (.slice A1 (result js (Job.eend js).toNat).tr.length c1)).setCell ⟨w.heap.size, 1, none⟩ (.slice (some ⟨d.gf, 0, none⟩) js.length js.length)).setCell ⟨w.heap.size, 2, none⟩ (.slice A2 (result js (Job.eend js).toNat).sh.length c2)).setCell ⟨w.heap.size, 3, none⟩ (.slice A3 (result js (Job.eend js).toNat).ag.length c3)) :=
              ((((keep1 w.heap.size wr).setCell _ (.inl rfl) _).setCell _ (.inl rfl) _).setCell _ (.inl rfl) _).setCell _ (.inl rfl) _
            clear fo o0 o1 o2 o3 p3 p4 p5 p6 HXB
            generalize (((wr.setCell ⟨w.heap.size, 0, none⟩ (.slice A1 (result js (Job.eend js).toNat).tr.length c1)).setCell ⟨w.heap.size, 1, none⟩ (.slice (some ⟨d.gf, 0, none⟩) js.length js.length)).setCell ⟨w.heap.size, 2, none⟩ (.slice A2 (result js (Job.eend js).toNat).sh.length c2)).setCell ⟨w.heap.size, 3, none⟩ (.slice A3 (result js (Job.eend js).toNat).ag.length c3) = wE at *
            have r0 : wE.cell? ⟨w.heap.size, 0, none⟩ = some (.slice A1 (result js (Job.eend js).toNat).tr.length c1) := XE.cellAt (i := 0) rfl
            have r1 : wE.cell? ⟨w.heap.size, 1, none⟩ = some (.slice (some ⟨d.gf, 0, none⟩) js.length js.length) := XE.cellAt (i := 1) rfl
            have r2 : wE.cell? ⟨w.heap.size, 2, none⟩ = some (.slice A2 (result js (Job.eend js).toNat).sh.length c2) := XE.cellAt (i := 2) rfl
            have r3 : wE.cell? ⟨w.heap.size, 3, none⟩ = some (.slice A3 (result js (Job.eend js).toNat).ag.length c3) := XE.cellAt (i := 3) rfl
            have hOL := HOL.out
            have hT := own_base (own_kept H.out.T KE (fun g _ _ hg => Nat.ne_of_gt (Nat.lt_of_lt_of_le hOL (own_block_lt H.out.T g (ob_mem.2 hg)).1))) (Nat.le_of_lt hOL)
            have hgf : w1.heap.size ≤ d.gf := H.out.ge d.gf (by simp [Adr.blocks, Adr.put])
            have hF := H.out.F.kept KE (show ¬ d.gf = w.heap.size by omega)
            have hB := below_keeps (HBO.out.trans (HB.out.mono HBO.out.size)) KE (Nat.le_trans HBO.out.size HB.out.size) (fun b hb => Nat.le_of_eq hb.symm)
            have hlf := H.out.lf
            refine bodyPost_ret (v := .tuple #[.agg #[.slice A1 (result js (Job.eend js).toNat).tr.length c1, .slice (some ⟨d.gf, 0, none⟩) js.length js.length, .slice A2 (result js (Job.eend js).toNat).sh.length c2, .slice A3 (result js (Job.eend js).toNat).ag.length c3], .int .i64 0]) (by simp [results, Tryz.results16, go_sem, r0, r1, r2, r3]) rfl ?_
            first | exact ⟨_, _, _, _, _, _, _, _, rfl, hT, hF, by omega, hlf, hB⟩ | exact ⟨_, _, ⟨_, _, _, _, _, _, rfl⟩, hT, hF, by omega, hlf, hB⟩
end
end Rob
end Go.Proofs.YtbgiegecfapmlaaGreatDoor
