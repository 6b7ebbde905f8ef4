/- kernel.New for any way that may be: what it plays, and its monitors, come as premises; conditions: good jobs, at most a dozen, the library's tables as its text lays them. What the two ways play: lengths of what they tell; conditions: good jobs, at most a dozen, the library's tables as its text lays them. package exec at the way Dover by 2 / 1: New, early, started, Submit; conditions: good jobs, the library's tables as its text lays them. package exec at the way Dover by 2 / 1: Start, Run, Report; conditions: good jobs, at most a dozen, the library's tables as its text lays them. Two rows of numbers that are alike; a way, as a value; conditions: none. TopPieces: the walk, for a way whose machine runs; conditions: the library's tables as its text lays them. -/
import Derived.Test.YtbgiegecfapmlaaGreatDoorA1
import Derived.Test.YtbgiegecfapmlaaGreatDoorD2
import Derived.Test.YtbgiegecfapmlaaGreatDoorD1
import Derived.Test.YtbgiegecfapmlaaGreatDoorW1
import Derived.Test.YtbgiegecfapmlaaGreatDoorRunAll
import Derived.Test.YtbgiegecfapmlaaGreatDoorHeldU
import Derived.Test.YtbgiegecfapmlaaGreatDoorA3
namespace Go.Proofs.YtbgiegecfapmlaaGreatDoor
open Go.RowKit
set_option linter.unusedVariables false
set_option linter.unusedSimpArgs false
namespace Kg
open Aw (kc Kn booked booked_len book say_any)
open Rob (own_below own_block_lt ob_mem blk_below below_drew J own_base result fc iv Goods)
open Job (jc jv)
/-- A kernel at block k, over jobs, with a trace and a book of fates, and monitors; it stands at a tick. -/
structure KnG (w : World) (k : Nat) (js : List J) (tr : List Int) (xs : List Fa) (now : Int) (Aj : Option Addr) (cj : Nat) (wv tv : Value) (bp g : Nat) : Prop where
  K : Blk w k 96 [.slice Aj js.length cj, wv, tv, .pointer (some ⟨bp, 0, none⟩), .int .i64 now]
  R : Row jc 8 w Aj js.length js
  a : ∀ a, Aj = some a → a.block ≠ k
  T : Has w 3 1 tv tr.length (tr.map iv)
  F : Fate.At w bp g xs
  l : xs.length = js.length
  al : ∀ a, Aj = some a → a.block < w.heap.size
section
variable {w w' : World} {js : List J} {A : Option Addr} {c : Nat}
theorem KnG.down {k : Nat} {tr : List Int} {xs : List Fa} {now : Int} {Aj : Option Addr} {cj : Nat} {wv tv : Value} {bp g : Nat} (h : KnG w k js tr xs now Aj cj wv tv bp g) (b : Below w.heap.size w w') : KnG w' k js tr xs now Aj cj wv tv bp g :=
  ⟨blk_below h.K b, Row.below h.R b, h.a, Aw.Has.down' h.T b, ⟨blk_below h.F.B b, blk_below h.F.G b⟩, h.l, fun a ha => Nat.lt_of_lt_of_le (h.al a ha) b.size⟩
/-- What a way plays. -/
def Plays (PR : Value) (A : Option Addr) (c : Nat) (js : List J) (P : List Int → List (Int × Int) → Prop) (w : World) : Prop :=
  Calls Tryz.prog 37 #[PR, .slice A js.length c] w fun e w' => ∃ tv gf tr fs, e = .returned (.tuple #[tv, .slice (some ⟨gf, 0, none⟩) js.length js.length, .int .i64 0]) ∧
      w'.ownsRow w.heap.size 3 1 tv tr.length (tr.map iv) ∧ Blk w' gf 53 (fs.flatMap fc) ∧ w.heap.size ≤ gf ∧ fs.length = js.length ∧ P tr fs ∧ Below w.heap.size w w'
set_option maxRecDepth 100000 in
set_option maxHeartbeats 4000000 in
theorem new_g {PR : Value} {Ax : Option Addr} {nw cw : Nat} {P : List Int → List (Int × Int) → Prop} {WQ : Value → World → Prop}
    (C1 : Calls Tryz.prog 23 #[PR] w fun e w' => e = .returned (.bool true) ∧ Below w.heap.size w w')
    (C2 : ∀ W, Calls Tryz.prog 35 #[PR] W fun e w' => e = .returned (.bool true) ∧ w' = W)
    (C4 : ∀ W, Below w.heap.size w W → Calls Tryz.prog 36 #[.slice Ax nw cw] W fun e w' => e = .returned (.int .i64 0) ∧ Below W.heap.size W w')
    (C5 : ∀ W, Below w.heap.size w W → Plays PR A c js P W)
    (C8 : ∀ W, Below w.heap.size w W → Calls Tryz.prog 40 #[.slice Ax nw cw] W fun e w' => ∃ Ax' nw' cw', e = .returned (.slice Ax' nw' cw') ∧ (∀ W2, Below w'.heap.size w' W2 → WQ (.slice Ax' nw' cw') W2) ∧ Below W.heap.size W w')
    (T : Tabs w) (R : Row jc 8 w A js.length js) (hA : ∀ a, A = some a → ∃ b off, a = ⟨b, off, none⟩) (hg : Goods js) (hall : Job.all js = true) (hn : js.length ≤ 12) :
    Calls Tryz.prog 17 #[PR, .slice A js.length c, .slice Ax nw cw] w fun e w' => ∃ k Aj cj wv tv bp g tr fs, e = .returned (.tuple #[.pointer (some ⟨k, 0, none⟩), .int .i64 0]) ∧ KnG w' k js tr (book fs) 0 Aj cj wv tv bp g ∧ P tr fs ∧ WQ wv w' ∧ fs.length = js.length ∧ w.heap.size ≤ k ∧ (∀ a, Aj = some a → w.heap.size ≤ a.block) ∧ Below w.heap.size w w' := by
  have hns : ∀ x ∈ js, x.nm.size < 4611686018427387904 := fun x hx => (hg x hx).2
  have C3 := fun W (hW : Below w.heap.size w W) => Job.all_is (c := c) (T.below hW) (Row.below R hW) hns
  rw [hall] at C3
  have C6 := fun W => Fate.new_any js.length W (by omega)
  have C7 := fun W (hW : Below w.heap.size w W) => Rob.clone_jobs (c := c) (Row.below R hW) hA (by omega)
  have HC1 := Lib.hid C1
  have HC2 := Lib.hid C2
  have HC3 := Lib.hid C3
  have HC4 := Lib.hid C4
  have HC5 := Lib.hid C5
  have HC6 := Lib.hid C6
  have HC7 := Lib.hid C7
  have HC8 := Lib.hid C8
  unfold Plays at HC5
  clear C1 C2 C3 C4 C5 C6 C7 C8 T R hA hg hall hns
  go_enter Tryz.func17, Tryz.ntmps17
  go_wp2_with fail
  refine HC1.out.mono ?_
  rintro e w1 ⟨rfl, b1⟩
  go_wp2_with fail
  refine (HC2.out _).mono ?_
  rintro e w2 ⟨rfl, rfl⟩
  go_wp2_with fail
  refine (HC3.out _ b1).mono ?_
  rintro e w3 ⟨rfl, b3⟩
  have B3 := b1.trans (b3.mono b1.size)
  go_wp2_with fail
  refine (HC4.out _ B3).mono ?_
  rintro e w4 ⟨rfl, b4⟩
  have B4 := B3.trans (b4.mono B3.size)
  clear b1 b3 b4 B3 HC1 HC2 HC3 HC4
  go_wp2_with fail
  refine (HC5.out _ B4).mono ?_
  rintro e w5 ⟨tv, gf, tr, fs, rfl, hT, hF, hgf, hlf, hP, b5⟩
  have HP := Lib.hid hP
  clear hP
  have B5 := B4.trans (b5.mono B4.size)
  obtain ⟨A1, c1, e1⟩ := own_shape hT
  subst e1
  have HT5 := Lib.hid (own_base hT B4.size)
  have HF5 := Lib.hid hF
  have HGF := Lib.hid hgf
  have HLF := Lib.hid hlf
  have HB5 := Lib.hid B5
  clear hT hF hgf hlf b5 B5 B4 HC5
  go_wp2_with fail
  refine (HC6.out _).mono ?_
  rintro e w6 ⟨bp, g, rfl, hbp, hgg, hFA, k6⟩
  have b6 := k6.below (fun _ _ h => h)
  have HB6 := Lib.hid (HB5.out.trans (b6.mono HB5.out.size))
  have HT6 := Lib.hid (own_below HT5.out b6)
  have HF6 := Lib.hid (blk_below HF5.out b6)
  have hgl := HF5.out.lt
  have HFA := Lib.hid hFA
  have HGG := Lib.hid (show w.heap.size ≤ g ∧ gf < g ∧ gf ≠ bp from ⟨Nat.le_trans HB5.out.size hgg, Nat.lt_of_lt_of_le hgl hgg, Nat.ne_of_lt (Nat.lt_of_lt_of_le hgl hbp)⟩)
  have HTG := Lib.hid (fun b (hb : (Value.slice A1 tr.length c1).ownBlock = some b) => (show b < g by have := (own_block_lt HT5.out b (ob_mem.2 hb)).2; omega))
  clear hbp hgg hFA k6 b6 hgl HC6 HT5 HF5 HB5
  go_wp2_with fail
  go_loopw [51] (fun v wr => ∃ i : Nat, i ≤ js.length ∧ v = .int .i64 (i : Int) ∧ Below w.heap.size w wr ∧ wr.ownsRow w.heap.size 3 1 (.slice A1 tr.length c1) tr.length (tr.map iv) ∧ Blk wr gf 53 (fs.flatMap fc) ∧ Fate.At wr bp g (booked fs i)) (fun v _ => js.length - (intOf v).toNat)
  case atStart => exact ⟨0, by omega, rfl, HB6.out, HT6.out, HF6.out, by unfold booked; rw [HLF.out]; exact HFA.out⟩
  case round =>
    clear HB6 HT6 HF6 HFA
    obtain ⟨i, hi, rfl, B, hT, hF, hB⟩ := hrel
    by_cases hlt : i < js.length
    · have hlti : (i : Int) < (js.length : Int) := by omega
      have hi0 : (0 : Int) ≤ (i : Int) := by omega
      have hi1 : (i : Int) + 1 ≤ 9223372036854775807 := by omega
      obtain ⟨f, hf⟩ : ∃ f, fs[i]? = some f := ⟨_, List.getElem?_eq_getElem (by have := HLF.out; omega)⟩
      have d0 := hF.cellAt (flat_at Rob.fc_len hf (j := 0) rfl)
      have d1 := hF.cellAt (flat_at Rob.fc_len hf (j := 1) rfl)
      rw [Nat.add_zero] at d0
      have hbn : booked fs (i + 1) = (Fate.say (booked fs i) i f.1 f.2).2 := by simp only [booked]; rw [hf]
      have hbl := booked_len fs i
      have ba := (Below.refl wr.heap.size wr).alloc (Nat.le_refl _) (.cells #[.int .i64 f.1, .int .i64 f.2] 53)
      have X := Blk.new wr 53 [.int .i64 f.1, .int .i64 f.2]
      have x0 := X.cellAt (i := 0) rfl
      have x1 := X.cellAt (i := 1) rfl
      have CS := say_any (xs := booked fs i) i f.1 f.2 (by rw [hbl, HLF.out]; omega) (⟨blk_below hB.B ba, blk_below hB.G ba⟩ : Fate.At (wr.alloc (.cells #[.int .i64 f.1, .int .i64 f.2] 53)) bp g (booked fs i)) (by rw [hbl, HLF.out]; exact hlt)
      have HBN := Lib.hid hbn
      have B2 := Lib.hid (B.trans (ba.mono B.size))
      have HT2 := Lib.hid (own_below hT ba)
      have HF2 := Lib.hid (blk_below hF ba)
      clear hbn hbl ba X B hT hF hB hf
      go_upto_region 17 with fail
      generalize wr.alloc (.cells #[.int .i64 f.1, .int .i64 f.2] 53) = w7 at *
      clear d0 d1
      go_wp2_with (go_at_call 39; refine CS.mono ?_; rintro e w8 ⟨⟨r, rfl⟩, h8, k8⟩)
      go_roundw
      case rel =>
        have hgg := HGG.out
        refine ⟨i + 1, by omega, by simp, below_keeps B2.out k8 B2.out.size (fun b hb => by rw [hb]; exact hgg.1), own_kept HT2.out k8 (fun b _ _ hb e => by have := HTG.out b hb; omega), HF2.out.kept k8 (by omega), by rw [HBN.out]; exact h8⟩
      case measure => simp [intOf]; omega
    · have hlti : ¬ (i : Int) < (js.length : Int) := by omega
      have hin : i = js.length := by omega
      subst hin
      have hbk : booked fs js.length = book fs := by unfold book; rw [HLF.out]
      rw [hbk] at hB
      have CC := HC7.out wr B
      have HB := Lib.hid B
      have HT := Lib.hid hT
      have HBK := Lib.hid hB
      clear B hT hF hB hbk HC7 hlti
      go_wp2_with (first | (go_at_call 28; refine CC.mono ?_; rintro e w7 ⟨A', c', rfl, R7, hA7, b7⟩) | (go_at_call 40; refine (HC8.out _ (HB.out.trans (b7.mono HB.out.size))).mono ?_; rintro e w8 ⟨Ax', nw', cw', rfl, HWQ, b8⟩))
      refine bodyPost_ret (v := .tuple #[.pointer (some ⟨w8.heap.size, 0, none⟩), .int .i64 0]) (by simp [results, Tryz.results17, go_sem]) rfl ?_
      have X := Blk.new w8 96 [.slice A' js.length c', .slice Ax' nw' cw', .slice A1 tr.length c1, .pointer (some ⟨bp, 0, none⟩), .int .i64 0]
      have ba := (Below.refl w8.heap.size w8).alloc (Nat.le_refl _) (.cells #[.slice A' js.length c', .slice Ax' nw' cw', .slice A1 tr.length c1, .pointer (some ⟨bp, 0, none⟩), .int .i64 0] 96)
      have ba' := b8.trans (ba.mono b8.size)
      have hB := (HB.out.trans (b7.mono HB.out.size)).trans (ba'.mono (Nat.le_trans HB.out.size b7.size))
      have hK : KnG (w8.alloc (.cells #[.slice A' js.length c', .slice Ax' nw' cw', .slice A1 tr.length c1, .pointer (some ⟨bp, 0, none⟩), .int .i64 0] 96)) w8.heap.size js tr (book fs) 0 A' c' (.slice Ax' nw' cw') (.slice A1 tr.length c1) bp g :=
        ⟨X, Row.below R7 ba', fun a ha => by have := (hA7 a ha).2; have := b8.size; omega, Has.of_own (own_below (own_below HT.out b7) ba'), ⟨blk_below (blk_below HBK.out.B b7) ba', blk_below (blk_below HBK.out.G b7) ba'⟩, by unfold book; rw [booked_len]; exact HLF.out, fun a ha => Nat.lt_of_lt_of_le (hA7 a ha).2 ba'.size⟩
      refine ⟨_, _, _, _, _, _, _, _, _, rfl, hK, HP.out, HWQ _ ba, HLF.out, Nat.le_trans HB.out.size (Nat.le_trans b7.size b8.size), fun a ha => Nat.le_trans HB.out.size (hA7 a ha).1, hB⟩
end
end Kg
end Go.Proofs.YtbgiegecfapmlaaGreatDoor

namespace Go.Proofs.YtbgiegecfapmlaaGreatDoor
open Go.RowKit
set_option linter.unusedVariables false
set_option linter.unusedSimpArgs false
namespace Rob
section
variable {js : List J} {now : Int}
theorem tr_late (s : St) (n : Nat) : (late js now s n).tr = s.tr := by
  induction n with
  | zero => rfl
  | succ n ih => simp only [late]; split <;> simpa [say] using ih
theorem tr_arrLoop (i n0 f : Nat) : ∀ s : St, (arrLoop js now i n0 f s).tr = s.tr := by
  induction f with
  | zero => intro s; rfl
  | succ f ih =>
    intro s
    simp only [arrLoop]
    split
    · rfl
    · split
      · rfl
      · rw [ih]; rfl
theorem tr_arrs (s : St) (n : Nat) : (arrs js now s n).tr = s.tr := by
  induction n with
  | zero => rfl
  | succ n ih =>
    simp only [arrs]
    split
    · unfold arrive
      rw [tr_arrLoop]
      exact ih
    · exact ih
theorem tr_againGo (l : List Nat) : ∀ s : St, (againGo js now l s).tr = s.tr := by
  induction l with
  | nil => intro s; rfl
  | cons i l ih =>
    intro s
    simp only [againGo]
    split
    · rw [ih]; rfl
    · rw [ih]; rfl
theorem tr_fin (s : St) (i : Nat) : (fin js now s i).tr = s.tr := by
  unfold fin
  split
  · rfl
  · split
    · rfl
    · split
      · unfold again
        rw [tr_againGo]; rfl
      · rfl
theorem tr_run (s : St) : (run js now s).tr.length = s.tr.length + 1 := by
  unfold run
  split
  · simp
  · rw [tr_fin]
    simp [work1]
theorem tr_play (n : Nat) : (play js (start js) n).tr.length = n := by
  induction n with
  | zero => rfl
  | succ n ih =>
    simp only [play]
    unfold step
    rw [tr_run, tr_arrs, tr_late, ih]
theorem tr_last (s : St) (n : Nat) : (lastTo now s n).tr = s.tr := by
  induction n with
  | zero => rfl
  | succ n ih => simp only [lastTo]; split <;> simpa [say] using ih
theorem tr_result (n : Nat) : (result js n).tr.length = n := by
  unfold result
  rw [tr_last, tr_play]
end
end Rob
namespace Kg
open Rob (own_below own_block_lt ob_mem blk_below below_drew J own_base result fc iv Goods)
open Job (jc jv)
section
variable {w w' : World} {js : List J} {A : Option Addr} {c : Nat}
def Short (tr : List Int) (fs : List (Int × Int)) : Prop := tr.length ≤ 1000000
theorem plays_r (T : Tabs w) (R : Row jc 8 w A js.length js) (hA : ∀ a, A = some a → ∃ b off, a = ⟨b, off, none⟩) (hg : Goods js) (hall : Job.all js = true) (hn : js.length ≤ 12) : Plays Aw.PR A c js Short w := by
  refine (Aw.played_r T R hA hg hall hn).mono ?_
  rintro e w' ⟨tv, gf, he, h1, h2, h3, h4, h5⟩
  refine ⟨tv, gf, _, _, he, h1, h2, h3, h4, ?_, h5⟩
  have := Rob.eend_bd hg
  unfold Short Aw.res
  rw [Rob.tr_result]
  omega
set_option maxRecDepth 100000 in
set_option maxHeartbeats 4000000 in
theorem plays_d (T : Tabs w) (R : Row jc 8 w A js.length js) (hA : ∀ a, A = some a → ∃ b off, a = ⟨b, off, none⟩) (hAl : ∀ a, A = some a → a.block < w.heap.size) (hg : Goods js) (hall : Job.all js = true) (hn : js.length ≤ 12) : Plays Dv.PR A c js Short w := by
  have CD := Dv.dover_r w
  have CR := fun W (hW : Below w.heap.size w W) => Dv.run_all (c := c) (T.below hW) (Row.below R hW) hA (fun a ha => Nat.lt_of_lt_of_le (hAl a ha) hW.size) hg hall hn
  have HCR := Lib.hid CR
  unfold Plays
  unfold Dv.PR at *
  clear CR T R hA hg hall hAl
  go_enter Tryz.func37, Tryz.ntmps37
  go_upto_region 3 with (go_at_call 58; refine CD.mono ?_; rintro e w1 ⟨rfl, b1⟩)
  have b2 := b1.alloc b1.size (.cells #[.int .i64 2, .int .i64 1] 73)
  have X2 := Blk.new w1 73 [.int .i64 2, .int .i64 1]
  have CR := HCR.out _ b2
  have HB2 := Lib.hid b2
  simp only [List.toArray] at X2
  clear b1 b2 HCR CD
  generalize w1.alloc (.cells #[.int .i64 2, .int .i64 1] 73) = w2 at *
  have x0 : w2.cell? ⟨w1.heap.size, 0, none⟩ = some (.int .i64 2) := X2.cellAt (i := 0) rfl
  have x1 : w2.cell? ⟨w1.heap.size, 1, none⟩ = some (.int .i64 1) := X2.cellAt (i := 1) rfl
  clear X2
  go_upto_region 4 with (go_at_call 73; refine CR.mono ?_; rintro e w3 ⟨tv, gf, A2, n2, c2, tr, fs, rfl, hT, hF, hgf, hlf, htr, b3⟩; obtain ⟨A1, c1, e1⟩ := own_shape hT; subst e1; have HHT := Lib.hid hT; have HHF := Lib.hid hF; have GF := Lib.hid hgf; have HLF := Lib.hid hlf; have HHB3 := Lib.hid b3; have HTR := Lib.hid htr; clear hT hF hgf hlf b3 CR htr)
  clear x0 x1
  have XO := Blk.new w3 150 [.slice A1 tr.length c1, .slice (some ⟨gf, 0, none⟩) js.length js.length, .slice A2 n2 c2]
  have y0 := XO.cellAt (i := 0) rfl
  have y1 := XO.cellAt (i := 1) rfl
  have KO := (Keeps.refl (fun _ => False) w3).alloc (.cells #[.slice A1 tr.length c1, .slice (some ⟨gf, 0, none⟩) js.length js.length, .slice A2 n2 c2] 150)
  simp only [List.toArray] at y0 y1
  clear XO
  generalize w3.alloc (.cells #[.slice A1 tr.length c1, .slice (some ⟨gf, 0, none⟩) js.length js.length, .slice A2 n2 c2] 150) = w4 at *
  go_quiet (fail)
  have K5 := KO.drewN nq
  have HK5 := Lib.hid K5
  clear KO K5
  go_wp2_with fail
  have hb5 := HK5.out.below (fun _ _ h => h)
  refine bodyPost_ret (v := .tuple #[.slice A1 tr.length c1, .slice (some ⟨gf, 0, none⟩) js.length js.length, .int .i64 0]) (by simp [results, Tryz.results37, go_sem]) rfl ?_
  have hT5 := own_base (own_below HHT.out hb5) HB2.out.size
  have hF5 := blk_below HHF.out hb5
  have hgf := GF.out
  have h2 := HB2.out.size
  have hB := (HB2.out.trans (HHB3.out.mono h2)).trans (hb5.mono (Nat.le_trans h2 HHB3.out.size))
  have hS : Short tr fs := by have := HTR.out; unfold Short; omega
  first | exact ⟨_, _, tr, fs, rfl, hT5, hF5, by omega, HLF.out, hS, hB⟩ | exact ⟨_, _, ⟨tr, hT5⟩, fs, hF5, by omega, HLF.out, hS, hB⟩
end
end Kg
end Go.Proofs.YtbgiegecfapmlaaGreatDoor

namespace Go.Proofs.YtbgiegecfapmlaaGreatDoor
open Go.RowKit
set_option linter.unusedVariables false
set_option linter.unusedSimpArgs false
namespace Dv
open Aw
open Rob (own_below own_block_lt ob_mem blk_below below_drew J)
open Job (jc jv)
/-- A machine's cells: its way, its jobs, its monitors, its kernel. -/
def xc (l k : Value) : List Value := [PR, l, .slice none 0 0, k]
theorem new_x (w : World) : Calls Tryz.prog 9 #[PR] w fun e w' => ∃ x, e = .returned (.tuple #[.pointer (some ⟨x, 0, none⟩), .int .i64 0]) ∧ Blk w' x 69 (xc (.slice none 0 0) (.pointer none)) ∧ w.heap.size ≤ x ∧ Below w.heap.size w w' := by
  have C := good_r w
  unfold xc
  unfold PR at *
  go_enter Tryz.func9, Tryz.ntmps9
  go_wp2_with (go_at_call 23; refine C.mono ?_; rintro e w1 ⟨rfl, b1⟩)
  refine bodyPost_ret (v := .tuple #[.pointer (some ⟨w1.heap.size, 0, none⟩), .int .i64 0]) (by simp [results, Tryz.results9, go_sem]) rfl ?_
  have X := Blk.new w1 69 [.iface 75 (.agg #[.int .i64 2, .int .i64 1]), .slice none 0 0, .slice none 0 0, .pointer none]
  first | exact ⟨w1.heap.size, rfl, X, b1.size, b1.alloc b1.size _⟩ | exact ⟨X, b1.size, b1.alloc b1.size _⟩
theorem early_x {w : World} {x : Nat} {l : Value} (h : Blk w x 69 (xc l (.pointer none))) : Calls Tryz.prog 24 #[.pointer (some ⟨x, 0, none⟩)] w fun e w' => e = .returned (.int .i64 0) ∧ w' = w := by
  have C := jobs_r w
  unfold xc at h
  have c0 := h.cellAt (i := 0) rfl
  have c3 := h.cellAt (i := 3) rfl
  unfold PR at *
  clear h
  go_enter Tryz.func24, Tryz.ntmps24
  go_wp2_with (go_at_call 35; refine C.mono ?_; rintro e w1 ⟨rfl, rfl⟩)
  go_ret
  exact ⟨rfl, rfl⟩
theorem started_x {w : World} {x k : Nat} {l : Value} (h : Blk w x 69 (xc l (.pointer (some ⟨k, 0, none⟩)))) : Calls Tryz.prog 26 #[.pointer (some ⟨x, 0, none⟩)] w fun e w' => e = .returned (.int .i64 0) ∧ w' = w := by
  have C := jobs_r w
  unfold xc at h
  have c0 := h.cellAt (i := 0) rfl
  have c3 := h.cellAt (i := 3) rfl
  unfold PR at *
  clear h
  go_enter Tryz.func26, Tryz.ntmps26
  go_wp2_with (go_at_call 35; refine C.mono ?_; rintro e w1 ⟨rfl, rfl⟩)
  go_ret
  exact ⟨rfl, rfl⟩
set_option maxRecDepth 100000 in
set_option maxHeartbeats 4000000 in
/-- A machine that has not started takes a job. -/
theorem submit_x {w : World} {base x : Nat} {lv : Value} {js : List J} {j : J} (T : Tabs w) (h : Blk w x 69 (xc lv (.pointer none))) (O : w.ownsRow base 36 8 lv js.length (js.flatMap jc)) (hbase : base ≤ w.heap.size) (hj : Job.good j = true) (hjn : j.nm.size < 4611686018427387904) (hn : js.length ≤ 100) :
    Calls Tryz.prog 11 #[.pointer (some ⟨x, 0, none⟩), jv j] w fun e w' => e = .returned (.tuple #[.int .i64 (js.length : Int), .int .i64 0]) ∧ ∃ lv', Blk w' x 69 (xc lv' (.pointer none)) ∧ w'.ownsRow base 36 8 lv' (js ++ [j]).length ((js ++ [j]).flatMap jc) ∧ Keeps (fun b => b = x ∨ lv.ownBlock = some b) w w' := by
  obtain ⟨i0, hI0, hz0, hz1, hz2⟩ := Rob.infoJ
  obtain ⟨AL, cL, hv⟩ := own_shape O
  subst hv
  have XB := Blk.new w 36 (jc j)
  have ba := (Below.refl w.heap.size w).alloc (Nat.le_refl _) (.cells (jc j).toArray 36)
  have h1 := blk_below h ba
  have O1 := own_below O ba
  have T1 := T.below ba
  have hob := own_block_lt O
  have HOB := Lib.hid hob
  have HNX := Lib.hid (fun b (e : (Value.slice AL js.length cL).ownBlock = some b) (e2 : b = w.heap.size) => (show False by have := (hob b (ob_mem.2 e)).2; omega))
  have BXX := Job.Box.of XB
  have hxw := h.lt
  have HXW := Lib.hid hxw
  have CE := fun W (hW : Below w.heap.size w W) => early_x (blk_below h hW)
  have HCE := Lib.hid CE
  have HBW := Lib.hid ba
  unfold jc at ba h1 O1 T1 BXX HBW
  have H1 := Lib.hid h1
  have HO1 := Lib.hid O1
  have HT1 := Lib.hid T1
  have HHB := Lib.hid hbase
  obtain ⟨x0, x1, x2, x3, x4, x5, x6, x7⟩ := BXX
  unfold jv
  clear CE hob XB ba h O T h1 O1 T1 hxw hbase
  go_enter Tryz.func11, Tryz.ntmps11
  go_upto_region 4 with (go_at_call 24; refine (HCE.out _ HBW.out).mono ?_; rintro e w1 ⟨rfl, rfl⟩)
  generalize w.alloc (.cells #[.string j.nm, .int .i64 j.rel, .int .i64 j.dl, .int .i64 j.bud, .int .i64 j.act, .int .i64 j.val, .int .i64 j.cln, .bool j.hard] 36) = w1 at *
  obtain ⟨X, hX⟩ : ∃ X, w.heap.size = X := ⟨_, rfl⟩
  rw [hX] at x0 x1 x2 x3 x4 x5 x6 x7
  have HX := Lib.hid (show Job.Box w1 X j from ⟨x0, x1, x2, x3, x4, x5, x6, x7⟩)
  have HNX2 : Hid (∀ b, (Value.slice AL js.length cL).ownBlock = some b → b ≠ X) := Lib.hid (fun b e e2 => HNX.out b e (by rw [hX]; exact e2))
  have CG := Job.good_is j w1 HT1.out hjn
  rw [hj] at CG
  unfold jv at CG
  rw [hX]
  have HXE := Lib.hid hX
  clear hX HNX HCE
  go_upto_region 6 with (go_at_call 25; refine CG.mono ?_; rintro e w2 ⟨rfl, b2⟩)
  have h2 := blk_below H1.out b2
  have O2 := own_below HO1.out b2
  have z2 := HX.out.below b2
  have c1 : w2.cell? ⟨x, 1, none⟩ = some (.slice AL js.length cL) := h2.cellAt (i := 1) rfl
  have hl1 : ¬ (200 : Int) ≤ (js.length : Int) := by omega
  have H2 := Lib.hid h2
  have HO2 := Lib.hid O2
  have HZ2 := Lib.hid z2
  have B2 := Lib.hid (HBW.out.trans (b2.mono HBW.out.size))
  clear CG x0 x1 x2 x3 x4 x5 x6 x7 h2 O2 z2 b2 H1 HO1 HT1 HX HBW
  go_upto_region 8 with fail
  refine wpU_begin (S := (fun W => W.cell? ⟨x, 1, none⟩ = some (.slice AL js.length cL) ∧ Job.Box W X j)) (U := 10) (by kernel_rfl) ?_
  have hd4 := below_drew w2
  have BX5 := blk_below H2.out hd4
  have O5 := own_below HO2.out hd4
  have z5 := HZ2.out.below hd4
  have B5 := B2.out.trans (hd4.mono B2.out.size)
  have y5 : w2.drew.cell? ⟨x, 1, none⟩ = some (.slice AL js.length cL) := c1
  have HNX := HNX2
  have hbs := HHB.out
  clear hd4 H2 HO2 HZ2 B2 c1 hl1
  generalize w2.drew = w5 at *
  refine wpU_take (i := 0) (oi := ⟨some 24, _, _, _, _, _⟩) (v := ?_) rfl (by kernel_rfl) (by kernel_rfl) (by kernel_rfl) (fun _ _ _ h => h) (by decide) (fun _ => ⟨y5, z5⟩) (Or.inl ⟨by kernel_rfl, ?_⟩) ?_
  rotate_left
  · intro w hSw; go_simp; try with_reducible rfl
  rotate_left
  try simp only [Act.put, List.setIfInBounds_toArray, List.set_cons_zero, List.set_cons_succ]
  refine wpU_take (i := 1) (oi := ⟨some 25, _, _, _, _, _⟩) (v := ?_) rfl (by kernel_rfl) (by kernel_rfl) (by kernel_rfl) (fun _ _ _ h => h) (by decide) (fun _ => ⟨y5, z5⟩) (Or.inl ⟨by kernel_rfl, ?_⟩) ?_
  rotate_left
  · intro w hSw; go_simp; try with_reducible rfl
  rotate_left
  try simp only [Act.put, List.setIfInBounds_toArray, List.set_cons_zero, List.set_cons_succ]
  refine wpU_take (i := 2) (oi := ⟨some 26, _, _, _, _, _⟩) (v := ?_) rfl (by kernel_rfl) (by kernel_rfl) (by kernel_rfl) (fun _ _ _ h => h) (by decide) (fun _ => ⟨y5, z5⟩) (Or.inl ⟨by kernel_rfl, ?_⟩) ?_
  rotate_left
  · intro w hSw; go_simp; try with_reducible rfl
  rotate_left
  try simp only [Act.put, List.setIfInBounds_toArray, List.set_cons_zero, List.set_cons_succ]
  refine wpU_take (i := 3) (oi := ⟨some 27, _, _, _, _, _⟩) (v := ?_) rfl (by kernel_rfl) (by kernel_rfl) (by kernel_rfl) (fun _ _ _ h => h) (by decide) (fun _ => ⟨y5, z5⟩) (Or.inl ⟨by kernel_rfl, ?_⟩) ?_
  rotate_left
  · intro w hSw; go_simp; try with_reducible rfl
  rotate_left
  try simp only [Act.put, List.setIfInBounds_toArray, List.set_cons_zero, List.set_cons_succ]
  refine wpU_load (i := 4) (oi := ⟨some 28, _, _, _, _, _⟩) (v := ?_) rfl (by kernel_rfl) (by kernel_rfl) (by kernel_rfl) (fun _ _ _ h => h) (by decide) (by kernel_rfl) (by kernel_rfl) (Or.inl ⟨by kernel_rfl, ?_⟩) ⟨y5, z5⟩ ?_
  rotate_left
  · intro w hSw; (try dsimp only at hSw); obtain ⟨q1, ⟨q20, q21, q22, q23, q24, q25, q26, q27⟩⟩ := hSw; go_simp; try with_reducible rfl
  rotate_left
  try simp only [Act.put, List.setIfInBounds_toArray, List.set_cons_zero, List.set_cons_succ]
  refine wpU_load (i := 5) (oi := ⟨some 29, _, _, _, _, _⟩) (v := ?_) rfl (by kernel_rfl) (by kernel_rfl) (by kernel_rfl) (fun _ _ _ h => h) (by decide) (by kernel_rfl) (by kernel_rfl) (Or.inl ⟨by kernel_rfl, ?_⟩) ⟨y5, z5⟩ ?_
  rotate_left
  · intro w hSw; (try dsimp only at hSw); obtain ⟨q1, ⟨q20, q21, q22, q23, q24, q25, q26, q27⟩⟩ := hSw; go_simp; try with_reducible rfl
  rotate_left
  try simp only [Act.put, List.setIfInBounds_toArray, List.set_cons_zero, List.set_cons_succ]
  refine wpU_ready (rs := [6]) (by kernel_rfl) (by simp) ?_
  refine AllReadyU.cons (o := ⟨some 30, _, _, _, _, _⟩) rfl (fun K hK => ?_) AllReadyU.nil
  go_simp
  have ba := (Below.refl w5.heap.size w5).alloc (Nat.le_refl _) (.cells #[.string j.nm, .int .i64 j.rel, .int .i64 j.dl, .int .i64 j.bud, .int .i64 j.act, .int .i64 j.val, .int .i64 j.cln, .bool j.hard] 36)
  have O6 := own_below O5 ba
  have N6 : Has (w5.alloc (.cells #[.string j.nm, .int .i64 j.rel, .int .i64 j.dl, .int .i64 j.bud, .int .i64 j.act, .int .i64 j.val, .int .i64 j.cln, .bool j.hard] 36)) 36 8 (.slice (some ⟨w5.heap.size, 0, none⟩) 1 1) 1 (jc j) := Has.box w5 36 8 1 (jc j) rfl (by unfold maxLen; omega)
  have y6 := (ba.cell (World.block_lt_of_cell? _ _ y5)).trans y5
  have z6 := z5.below ba
  have BX6 := blk_below BX5 ba
  have B6 := B5.trans (ba.mono B5.size)
  have hn5 : w5.heap.size < (w5.alloc (.cells #[.string j.nm, .int .i64 j.rel, .int .i64 j.dl, .int .i64 j.bud, .int .i64 j.act, .int .i64 j.val, .int .i64 j.cln, .bool j.hard] 36)).heap.size := by simp
  generalize w5.alloc (.cells #[.string j.nm, .int .i64 j.rel, .int .i64 j.dl, .int .i64 j.bud, .int .i64 j.act, .int .i64 j.val, .int .i64 j.cln, .bool j.hard] 36) = w6 at *
  refine hK.out _ _ (fun _ => ⟨y6, z6⟩) ?_
  clear hK K
  try simp only [Act.put, List.setIfInBounds_toArray, List.set_cons_zero, List.set_cons_succ]
  refine wpU_ready (rs := [7]) (by kernel_rfl) (by simp) ?_
  refine AllReadyU.cons (o := ⟨some 31, _, _, _, _, _⟩) rfl (fun K hK => ?_) AllReadyU.nil
  refine step_append_has rfl (.tmp 28) (.tmp 30) 22 rfl i0 _ 72 Tryz.underlying22 hI0 hz0 hz1 hz2 rfl (by decide) (by simp [Act.eval, Act.put]) O6 (some ⟨w5.heap.size, 0, none⟩) 1 1 (jc j) (by simp [Act.eval, Act.put]) N6 (Rob.jc_one j) (by unfold maxLen; omega) (by omega) (by have := B6.size; omega) ?_
  intro v7 w7 own7 g7 at7
  obtain ⟨A7, c7, hv7⟩ := own_shape own7
  subst hv7
  have K7 : Keeps (fun b => (Value.slice AL js.length cL).ownBlock = some b) w6 w7 := keeps_grown (Keeps.refl _ w6) g7 (fun g hg => .inl hg)
  have hnx : (Value.slice AL js.length cL).ownBlock ≠ some x := own_type_ne O6 BX6 (by decide)
  have hnX : (Value.slice AL js.length cL).ownBlock ≠ some X := fun e => HNX.out _ e rfl
  have BX7 := BX6.grown g7 hnx
  have f7 := BX7.frozen
  have y7 : w7.cell? ⟨x, 1, none⟩ = some (.slice AL js.length cL) := BX7.cellAt (i := 1) rfl
  have hX7 : w7.heap[X]? = w6.heap[X]? := K7.block X (World.block_lt_of_cell? _ _ z6.c0) hnX
  have z7 : Job.Box w7 X j := ⟨(World.cell?_of_block (a := ⟨X, 0, none⟩) hX7).trans z6.c0, (World.cell?_of_block (a := ⟨X, 1, none⟩) hX7).trans z6.c1, (World.cell?_of_block (a := ⟨X, 2, none⟩) hX7).trans z6.c2, (World.cell?_of_block (a := ⟨X, 3, none⟩) hX7).trans z6.c3, (World.cell?_of_block (a := ⟨X, 4, none⟩) hX7).trans z6.c4, (World.cell?_of_block (a := ⟨X, 5, none⟩) hX7).trans z6.c5, (World.cell?_of_block (a := ⟨X, 6, none⟩) hX7).trans z6.c6, (World.cell?_of_block (a := ⟨X, 7, none⟩) hX7).trans z6.c7⟩
  refine hK.out _ _ (fun _ => ⟨y7, z7⟩) ?_
  clear hK K
  try simp only [Act.put, List.setIfInBounds_toArray, List.set_cons_zero, List.set_cons_succ]
  refine wpU_take (i := 8) (oi := ⟨some 32, _, _, _, _, _⟩) (v := ?_) rfl (by kernel_rfl) (by kernel_rfl) (by kernel_rfl) (fun _ _ _ h => h) (by decide) (fun _ => ⟨y7, z7⟩) (Or.inl ⟨by kernel_rfl, ?_⟩) ?_
  rotate_left
  · intro w hSw; go_simp; try with_reducible rfl
  rotate_left
  try simp only [Act.put, List.setIfInBounds_toArray, List.set_cons_zero, List.set_cons_succ]
  refine wpU_take (i := 9) (oi := ⟨some 33, _, _, _, _, _⟩) (v := ?_) rfl (by kernel_rfl) (by kernel_rfl) (by kernel_rfl) (fun _ _ _ h => h) (by decide) (fun _ => ⟨y7, z7⟩) (Or.inl ⟨by kernel_rfl, ?_⟩) ?_
  rotate_left
  · intro w hSw; go_simp; try with_reducible rfl
  rotate_left
  try simp only [Act.put, List.setIfInBounds_toArray, List.set_cons_zero, List.set_cons_succ]
  refine wpU_ready (rs := [10]) (by kernel_rfl) (by simp) ?_
  refine AllReadyU.cons (o := ⟨none, _, _, _, _, _⟩) rfl (fun K hK => ?_) AllReadyU.nil
  go_simp
  refine hK.out _ _ (fun h => absurd h (by decide)) ?_
  clear hK K
  try simp only [Act.put, List.setIfInBounds_toArray, List.set_cons_zero, List.set_cons_succ]
  refine wpU_done (by kernel_rfl) ?_ _
  have hl7 : (js ++ [j]).length = js.length + 1 := by simp
  have hS' : (w7.setCell ⟨x, 1, none⟩ (.slice A7 (js.length + 1) c7)).cell? ⟨x, 1, none⟩ = some (.slice A7 (js.length + 1) c7) := (BX7.set_ 1 _).cellAt (i := 1) rfl
  have hn7 : (Value.slice A7 (js.length + 1) c7).ownBlock ≠ some x := own_type_ne own7 BX7 (by decide)
  have hO8 := own_kept own7 ((keep1 x w7).setCell ⟨x, 1, none⟩ (.inl rfl) (.slice A7 (js.length + 1) c7)) (fun g _ _ hg e => hn7 (by rw [hg, e]))
  have hB8 := BX7.set_ 1 (.slice A7 (js.length + 1) c7)
  have K8 : Keeps (fun b => b = x ∨ (Value.slice AL js.length cL).ownBlock = some b) w (w7.setCell ⟨x, 1, none⟩ (.slice A7 (js.length + 1) c7)) := by
    have k0 : Keeps (fun b => b = x ∨ (Value.slice AL js.length cL).ownBlock = some b) w w6 := keeps_of B6 _
    exact (k0.trans K7 (fun _ _ h => .inr h)).setCell _ (.inl (.inl rfl)) _
  have HO8 := Lib.hid hO8
  have HB8 := Lib.hid hB8
  have HK8 := Lib.hid K8
  have hw : wrap64 ((js.length : Int) + 1 - 1) = (js.length : Int) := by unfold wrap64; omega
  have hw2 : IntKind.i64.wrap ((js.length : Int) + 1 - 1) = (js.length : Int) := by rw [IntKind.wrap_i64]; omega
  clear hO8 hB8 K8 BX7 own7 g7 at7 K7 hn7 f7 y7 hX7 z7 hnx hnX O6 N6 y6 z6 BX6 B6 hn5 O5 BX5 z5 B5 y5
  generalize w7.setCell ⟨x, 1, none⟩ (.slice A7 (js.length + 1) c7) = w8 at *
  go_wp2_with fail
  refine bodyPost_ret (v := .tuple #[.int .i64 (js.length : Int), .int .i64 0]) (by simp [results, Tryz.results11, go_sem]) rfl ?_
  have hO9 : w8.ownsRow base 36 8 (.slice A7 (js.length + 1) c7) (js ++ [j]).length ((js ++ [j]).flatMap jc) := by
    have e : (js ++ [j]).flatMap jc = js.flatMap jc ++ jc j := by simp
    rw [hl7, e]; exact HO8.out
  first | exact ⟨rfl, _, HB8.out, hO9, HK8.out⟩ | exact ⟨rfl, ⟨_, HB8.out, hO9⟩, HK8.out⟩
end Dv
end Go.Proofs.YtbgiegecfapmlaaGreatDoor

namespace Go.Proofs.YtbgiegecfapmlaaGreatDoor
open Go.RowKit
set_option linter.unusedVariables false
set_option linter.unusedSimpArgs false
namespace Dv
open Aw
open Rob (own_below own_block_lt ob_mem blk_below below_drew J own_base result fc iv Goods)
open Job (jc jv)
section
variable {w w' : World} {x k base : Nat} {js : List J} {lv : Value} {tr : List Int} {xs : List Fa} {Aj : Option Addr} {cj : Nat} {tv : Value} {bp g : Nat}
theorem own_low {e : TypeId} {size n c : Nat} {A : Option Addr} {l : List Value} (h : w.ownsRow base e size (.slice A n c) n l) : ∀ a, A = some a → a.block < w.heap.size := by
  intro a ha
  subst ha
  exact (own_block_lt h a.block (ob_mem.2 rfl)).2
/-- kernel.New at the way Dover, without monitors. -/
theorem new_k {A : Option Addr} {c : Nat} (T : Tabs w) (R : Row jc 8 w A js.length js) (hA : ∀ a, A = some a → ∃ b off, a = ⟨b, off, none⟩) (hAl : ∀ a, A = some a → a.block < w.heap.size) (hg : Goods js) (hall : Job.all js = true) (hn : js.length ≤ 12) :
    Calls Tryz.prog 17 #[PR, .slice A js.length c, .slice none 0 0] w fun e w' => ∃ (k : Nat) (Aj : Option Addr) (cj : Nat) (tv : Value) (bp g : Nat) (tr : List Int) (xs : List Fa), e = .returned (.tuple #[.pointer (some ⟨k, 0, none⟩), .int .i64 0]) ∧ Kn w' k js tr xs 0 Aj cj tv bp g ∧ tr.length ≤ 1000000 ∧ w.heap.size ≤ k ∧ (∀ a, Aj = some a → w.heap.size ≤ a.block) ∧ Below w.heap.size w w' := by
  refine (Kg.new_g (P := Kg.Short) (WQ := fun v _ => v = .slice none 0 0) (good_r w) jobs_r (fun W _ => watches_nil W) (fun W hW => Kg.plays_d (c := c) (T.below hW) (Row.below R hW) hA (fun a ha => Nat.lt_of_lt_of_le (hAl a ha) hW.size) hg hall hn)
    (fun W _ => (clone_w W).mono fun e w' ⟨he, hw⟩ => ⟨none, 0, 0, he, fun _ _ => rfl, by rw [hw]; exact Below.refl _ _⟩) T R hA hg hall hn).mono ?_
  rintro e w' ⟨k, Aj, cj, wv, tv, bp, g, tr, fs, he, hK, hP, hwv, hfl, h1, h2, h3⟩
  refine ⟨k, Aj, cj, tv, bp, g, tr, book fs, he, ?_, hP, h1, h2, h3⟩
  have hwv : wv = .slice none 0 0 := hwv
  subst hwv
  exact ⟨hK.K, hK.R, hK.a, hK.T, hK.F, hK.l, hK.al⟩
set_option maxRecDepth 100000 in
set_option maxHeartbeats 4000000 in
theorem start_x (T : Tabs w) (h : Blk w x 69 (xc lv (.pointer none))) (O : w.ownsRow base 36 8 lv js.length (js.flatMap jc)) (hg : Goods js) (hall : Job.all js = true) (hn : js.length ≤ 12) :
    Calls Tryz.prog 12 #[.pointer (some ⟨x, 0, none⟩)] w fun e w' => e = .returned (.int .i64 0) ∧ ∃ (k : Nat) (Aj : Option Addr) (cj : Nat) (tv : Value) (bp g : Nat) (tr : List Int) (xs : List Fa), Blk w' x 69 (xc lv (.pointer (some ⟨k, 0, none⟩))) ∧ Kn w' k js tr xs 0 Aj cj tv bp g ∧ tr.length ≤ 1000000 ∧ w.heap.size ≤ k ∧ (∀ a, Aj = some a → w.heap.size ≤ a.block) ∧ Keeps (· = x) w w' := by
  obtain ⟨AL, cL, hv⟩ := own_shape O
  subst hv
  have R := Rob.Row.of_own Rob.jc_len O rfl (by unfold maxLen; omega)
  have CE := early_x h
  have CN := fun W (hW : Below w.heap.size w W) => new_k (c := cL) (T.below hW) (Row.below R hW) (own_addr O) (fun a ha => Nat.lt_of_lt_of_le (own_low O a ha) hW.size) hg hall hn
  have c0 : w.cell? ⟨x, 0, none⟩ = some PR := h.cellAt (i := 0) rfl
  have c1 : w.cell? ⟨x, 1, none⟩ = some (.slice AL js.length cL) := h.cellAt (i := 1) rfl
  have c2 : w.cell? ⟨x, 2, none⟩ = some (.slice none 0 0) := h.cellAt (i := 2) rfl
  have HCN := Lib.hid (CN w.drew (below_drew w))
  have H := Lib.hid h
  have HX := Lib.hid h.lt
  clear CN R T O hg hall h
  unfold PR at c0 HCN
  go_enter Tryz.func12, Tryz.ntmps12
  go_upto_region 4 with (go_at_call 24; refine CE.mono ?_; rintro e w1 ⟨rfl, rfl⟩)
  clear CE
  go_region_held3 (fun W => W.cell? ⟨x, 0, none⟩ = some (.iface 75 (.agg #[.int .i64 2, .int .i64 1])) ∧ W.cell? ⟨x, 1, none⟩ = some (.slice AL js.length cL) ∧ W.cell? ⟨x, 2, none⟩ = some (.slice none 0 0)) (first | exact ⟨c0, c1, c2⟩ | exact ⟨y0, y1, y2⟩) (first | (go_at_call 17; refine HCN.out.mono ?_; rintro e w2 ⟨k, Aj, cj, tv, bp, g, tr, xs, rfl, hK, hts, hk, hkA, b2⟩; have HTS := Lib.hid hts; have hb2 := (below_drew w1).trans (b2.mono (Nat.le_refl _)); have y0 := (hb2.cell HX.out).trans c0; have y1 := (hb2.cell HX.out).trans c1; have y2 := (hb2.cell HX.out).trans c2))
  have h2 := blk_below H.out hb2
  have fx := h2.frozen
  have c3 : w2.cell? ⟨x, 3, none⟩ = some (.pointer none) := h2.cellAt (i := 3) rfl
  have H2 := Lib.hid h2
  have HK := Lib.hid hK
  have HKL := Lib.hid hk
  have HKA := Lib.hid hkA
  have HB2 := Lib.hid hb2
  clear h2 hK hk hkA hb2 b2 hts y0 y1 y2 c0 c1 c2 HCN
  go_wp2_with fail
  go_ret
  have hxk : x ≠ k := Blk.ne_ H2.out HK.out.K (by decide)
  have KE := (keep1 x w2).setCell ⟨x, 3, none⟩ (.inl rfl) (.pointer (some ⟨k, 0, none⟩))
  have hkk := HKL.out
  have hxl := HX.out
  have hds := (below_drew w1).size
  have hKn : Kn (w2.setCell ⟨x, 3, none⟩ (.pointer (some ⟨k, 0, none⟩))) k js tr xs 0 Aj cj tv bp g := by
    obtain ⟨a1, a2, a3, a4, a5, a6, a7⟩ := HK.out
    exact ⟨a1.kept KE (fun e => hxk e.symm), Rob.Row.kept' a2 KE (fun a ha e => by have := HKA.out a ha; omega), a3, a4.kept KE (fun g cur hg _ => own_ne H2.out (by decide) g cur hg), a5.kept KE (Blk.ne_ a5.B H2.out (by decide)) (Blk.ne_ a5.G H2.out (by decide)), a6, fun a ha => Nat.lt_of_lt_of_le (a7 a ha) KE.size⟩
  exact ⟨rfl, k, Aj, cj, tv, bp, g, tr, xs, H2.out.set_ 3 _, hKn, HTS.out, by omega, HKA.out, ((Keeps.of_below (S := (· = x)) HB2.out).setCell ⟨x, 3, none⟩ (.inl rfl) _)⟩
/-- What Run leaves. -/
structure Ran (w w' : World) (x k : Nat) (lv : Value) (js : List J) (tr : List Int) (xs : List Fa) (Aj : Option Addr) (cj : Nat) (tv : Value) (bp g t : Nat) (l : List Int) (v : Value) : Prop where
  O : w'.ownsRow w.heap.size 3 1 v l.length (l.map iv)
  X : Blk w' x 69 (xc lv (.pointer (some ⟨k, 0, none⟩)))
  K : Kn w' k js tr xs ((t + l.length : Nat) : Int) Aj cj tv bp g
  k : Keeps (· = k) w w'
set_option maxRecDepth 100000 in
set_option maxHeartbeats 4000000 in
/-- Run: the next ticks of the trace. -/
theorem run_x {t m : Nat} (h : Blk w x 69 (xc lv (.pointer (some ⟨k, 0, none⟩)))) (hK : Kn w k js tr xs (t : Int) Aj cj tv bp g) (ht : t ≤ tr.length) (hl : tr.length ≤ 1000000) (hm : m ≤ 1000) :
    Calls Tryz.prog 13 #[.pointer (some ⟨x, 0, none⟩), .int .i64 (m : Int)] w fun e w' => ∃ v, e = .returned (.tuple #[v, .int .i64 0]) ∧ Ran w w' x k lv js tr xs Aj cj tv bp g t ((tr.drop t).take m) v := by
  obtain ⟨i0, hI0, hz0, hz1, hz2⟩ := Rob.infoI
  have CS := started_x h
  have hxk : x ≠ k := Blk.ne_ h hK.K (by decide)
  have H := Lib.hid h
  have HK := Lib.hid hK
  have HXK := Lib.hid hxk
  have HKL := Lib.hid hK.lts
  have hm0 : ¬ (m : Int) < 0 := by omega
  clear h hK hxk
  go_enter Tryz.func13, Tryz.ntmps13
  go_wp2_with (go_at_call 26; refine CS.mono ?_; rintro e w1 ⟨rfl, rfl⟩)
  go_loopg [7] m (fun gg v wr => ∃ j : Nat, j + gg = m ∧ t + j ≤ tr.length ∧ wr.ownsRow w1.heap.size 3 1 v j (((tr.drop t).take j).map iv) ∧ Blk wr x 69 (xc lv (.pointer (some ⟨k, 0, none⟩))) ∧ Kn wr k js tr xs ((t + j : Nat) : Int) Aj cj tv bp g ∧ Keeps (· = k) w1 wr)
  case atStart => exact ⟨0, by omega, by omega, ⟨by simp, .inl ⟨rfl, rfl⟩⟩, H.out, HK.out, Keeps.refl _ _⟩
  case round =>
    clear H HK CS
    obtain ⟨j, hj, hjl, O, h, hK, kk⟩ := hrel
    obtain ⟨AS, cS, hv⟩ := own_shape O
    subst hv
    have hlen : ((tr.drop t).take j).length = j := by rw [List.length_take, List.length_drop]; omega
    by_cases hjm : j < m
    · obtain ⟨gg, rfl⟩ : ∃ n, gk = n + 1 := ⟨gk - 1, by omega⟩
      have hlt : (j : Int) < (m : Int) := by omega
      have c3 : wr.cell? ⟨x, 3, none⟩ = some (.pointer (some ⟨k, 0, none⟩)) := h.cellAt (i := 3) rfl
      have hgo := own_block_lt O
      by_cases htl : t + j < tr.length
      · obtain ⟨y, hy⟩ : ∃ y, tr[t + j]? = some y := ⟨_, List.getElem?_eq_getElem htl⟩
        have CT := tick_go hK htl hl hy
        have hnext : (tr.drop t).take (j + 1) = (tr.drop t).take j ++ [y] := take_next (by rw [List.getElem?_drop]; exact hy)
        have HN := Lib.hid hnext
        have H := Lib.hid h
        have HO := Lib.hid O
        have HKK := Lib.hid kk
        have HK1 := Lib.hid hK.K
        clear hnext h O kk hK hy
        go_upto_region 10 with (go_at_call 27; refine CT.mono ?_; rintro e w2 ⟨rfl, hK2, k2⟩)
        have O2 := own_kept HO.out k2 (fun g cur hg _ => own_ne HK1.out (by decide) g cur hg)
        have h2 := H.out.kept k2 HXK.out
        have kk2 := HKK.out.trans k2 (fun _ _ h => h)
        have O5 := own_below O2 ((Below.refl w2.heap.size w2).alloc (Nat.le_refl _) (.cells #[.int .i64 y] 3))
        have hsz5 : w1.heap.size ≤ (w2.alloc (.cells #[.int .i64 y] 3)).heap.size := by have := kk2.size; simp; omega
        have HH2 := Lib.hid h2
        have HKN2 := Lib.hid hK2
        have HKK2 := Lib.hid kk2
        have HGO := Lib.hid hgo
        clear O2 h2 kk2 hK2 k2 CT H HO HKK HK1 c3 hgo
        go_wp2_with (at_builtin; refine wpList_append_has rfl (.tmp 33) (.tmp 35) 23 rfl i0 _ 8 Tryz.underlying23 hI0 hz0 hz1 hz2 rfl (by decide) rfl O5 (some ⟨w2.heap.size, 0, none⟩) 1 1 [.int .i64 y] rfl (Has.box w2 3 1 1 [.int .i64 y] rfl (by unfold maxLen; omega)) (Rob.iv_one [y]) (by unfold maxLen; omega) (by omega) hsz5 ?_; intro v6 w6 own6 g6 at6; obtain ⟨A6, c6, hv6⟩ := own_shape own6; subst hv6; have OWN6 := Lib.hid own6; have KG := Lib.hid (keeps_grown ((Keeps.refl (fun b => (Value.slice AS j cS).ownBlock = some b) w2).alloc (.cells #[.int .i64 y] 3)) g6 (fun g hg => .inl hg)); clear own6 g6 at6)
        go_roundg gg
        case measure => omega
        case rel =>
          have hg2 := fun b hb => (HGO.out b (ob_mem.2 hb)).1
          obtain ⟨l1, l2, l3, l4, l5⟩ := HKL.out
          have hkz := HKK2.out.size
          have hO : ∀ b, (Value.slice AS j cS).ownBlock = some b → w1.heap.size ≤ b := fun b hb => hg2 b hb
          have hK6 := HKN2.out.kept KG.out (fun e => by have := hO _ e; omega) (fun a ha e => by have := hO _ e; have := l1 a ha; omega) (fun b hb e => by have := hO _ e; have := l2 b hb; omega) (fun e => by have := hO _ e; omega) (fun e => by have := hO _ e; omega)
          exact ⟨j + 1, by omega, by omega, by rw [HN.out, List.map_append]; exact OWN6.out, HH2.out.kept KG.out (own_type_ne O5 (HH2.out.alloc _) (by decide)), hK6, HKK2.out.trans KG.out (fun b hb hs => by have := hO b hs; omega)⟩
      · have CT := tick_end hK (by omega)
        have hjt : (tr.drop t).take m = (tr.drop t).take j := by rw [List.take_of_length_le (by rw [List.length_drop]; omega), List.take_of_length_le (by rw [List.length_drop]; omega)]
        have HJT := Lib.hid hjt
        have H := Lib.hid h
        have HO := Lib.hid O
        have HKK := Lib.hid kk
        have HK1 := Lib.hid hK
        clear hjt h O kk hK hgo
        go_wp2_with (go_at_call 27; refine CT.mono ?_; rintro e w2 ⟨rfl, d2⟩)
        refine bodyPost_ret (v := .tuple #[.slice AS j cS, .int .i64 0]) (by simp [results, Tryz.results13, go_sem]) rfl ?_
        have k2 := d2.keeps (fun _ => False)
        refine ⟨_, rfl, ⟨?_, H.out.kept k2 (fun h => h), ?_, HKK.out.trans k2 (fun _ _ h => h.elim)⟩⟩
        · rw [HJT.out, hlen]; exact own_kept HO.out k2 (fun _ _ _ _ h => h)
        · rw [HJT.out, hlen]; exact HK1.out.stay k2
    · have hlt : ¬ (j : Int) < (m : Int) := by omega
      have hjm2 : j = m := by omega
      subst hjm2
      have H := Lib.hid h
      have HO := Lib.hid O
      have HKK := Lib.hid kk
      have HK1 := Lib.hid hK
      clear h O kk hK
      go_wp2_with fail
      refine bodyPost_ret (v := .tuple #[.slice AS j cS, .int .i64 0]) (by simp [results, Tryz.results13, go_sem]) rfl ?_
      refine ⟨_, rfl, ⟨?_, H.out, ?_, HKK.out⟩⟩
      · rw [hlen]; exact HO.out
      · rw [hlen]; exact HK1.out
set_option maxRecDepth 100000 in
set_option maxHeartbeats 4000000 in
theorem report_x {A : Option Addr} {c : Nat} {now : Int} (h : Blk w x 69 (xc lv (.pointer (some ⟨k, 0, none⟩)))) (hK : Kn w k js tr xs now Aj cj (.slice A tr.length c) bp g) (hn : js.length ≤ 12) (hnm : ∀ x ∈ js, x.nm.size ≤ 1000) (htl : tr.length ≤ 1000000) :
    Calls Tryz.prog 14 #[.pointer (some ⟨x, 0, none⟩)] w fun e w' => ∃ (v1 v2 : Value) (b s : Int), e = .returned (.tuple #[.agg #[v1, v2, .int .i64 (Led.earn (rowsTo js xs js.length)), .int .i64 (Led.loss (rowsTo js xs js.length)), .slice none 0 0, .int .i64 b, .int .i64 s], .int .i64 0]) ∧
      Has w' 3 1 v1 tr.length (tr.map iv) ∧ Has w' 53 2 v2 js.length (xs.flatMap Fate.cf) ∧ Below w.heap.size w w' := by
  have bO := (Below.refl w.heap.size w).alloc (Nat.le_refl _) (.cells #[.slice none 0 0, .slice none 0 0, .int .i64 0, .int .i64 0, .slice none 0 0, .int .i64 0, .int .i64 0] 43)
  have XO := Blk.new w 43 [.slice none 0 0, .slice none 0 0, .int .i64 0, .int .i64 0, .slice none 0 0, .int .i64 0, .int .i64 0]
  have CS := started_x (blk_below h bO)
  have CR := report_is (hK.down bO) hn hnm htl
  have c3 : (w.alloc (.cells #[.slice none 0 0, .slice none 0 0, .int .i64 0, .int .i64 0, .slice none 0 0, .int .i64 0, .int .i64 0] 43)).cell? ⟨x, 3, none⟩ = some (.pointer (some ⟨k, 0, none⟩)) := (blk_below h bO).cellAt (i := 3) rfl
  have hOl := XO.lt
  have HBO := Lib.hid bO
  have HXO := Lib.hid XO
  have HOL := Lib.hid hOl
  obtain ⟨E, hE⟩ : ∃ E, Led.earn (rowsTo js xs js.length) = E := ⟨_, rfl⟩
  obtain ⟨L, hL⟩ : ∃ L, Led.loss (rowsTo js xs js.length) = L := ⟨_, rfl⟩
  rw [hE, hL] at CR
  rw [hE, hL]
  clear h hK bO XO hOl hnm hE hL
  go_enter Tryz.func14, Tryz.ntmps14
  go_upto_region 1 with fail
  generalize w.alloc (.cells #[.slice none 0 0, .slice none 0 0, .int .i64 0, .int .i64 0, .slice none 0 0, .int .i64 0, .int .i64 0] 43) = w1 at *
  go_upto_region 4 with (go_at_call 26; refine CS.mono ?_; rintro e w2 ⟨rfl, rfl⟩)
  clear CS
  go_wp2_with fail
  refine CR.mono ?_
  rintro e w3 ⟨v1, v2, b, s, rfl, P, Q, b3⟩
  obtain ⟨A1, c1, e1⟩ := P.shape
  subst e1
  obtain ⟨A2, c2, e2⟩ := Q.shape
  subst e2
  have XO := blk_below HXO.out b3
  have fo := XO.frozen
  have o0 := XO.cellAt (i := 0) rfl
  have o1 := XO.cellAt (i := 1) rfl
  have o2 := XO.cellAt (i := 2) rfl
  have o3 := XO.cellAt (i := 3) rfl
  have o4 := XO.cellAt (i := 4) rfl
  have o5 := XO.cellAt (i := 5) rfl
  have o6 := XO.cellAt (i := 6) rfl
  have HXB := Lib.hid XO
  have HP9 := Lib.hid P
  have HQ9 := Lib.hid Q
  have HB9 := Lib.hid b3
  clear XO P Q b3 CR c3
  go_wp2_with fail
  have XE := ((((((HXB.out.set_ 0 (.slice A1 tr.length c1)).set_ 1 (.slice A2 js.length c2)).set_ 2 (.int .i64 E)).set_ 3 (.int .i64 L)).set_ 4 (.slice none 0 0)).set_ 5 (.int .i64 b)).set_ 6 (.int .i64 s)
  have KE : Keeps (· = w.heap.size) w3 (((((((w3.setCell ⟨w.heap.size, 0, none⟩ (.slice A1 tr.length c1)).setCell ⟨w.heap.size, 1, none⟩ (.slice A2 js.length c2)).setCell ⟨w.heap.size, 2, none⟩ (.int .i64 E)).setCell ⟨w.heap.size, 3, none⟩ (.int .i64 L)).setCell ⟨w.heap.size, 4, none⟩ (.slice none 0 0)).setCell ⟨w.heap.size, 5, none⟩ (.int .i64 b)).setCell ⟨w.heap.size, 6, none⟩ (.int .i64 s)) :=
    ((((((((keep1 w.heap.size w3).setCell _ (.inl rfl) _).setCell _ (.inl rfl) _).setCell _ (.inl rfl) _).setCell _ (.inl rfl) _).setCell _ (.inl rfl) _).setCell _ (.inl rfl) _).setCell _ (.inl rfl) _)
  have PE := HP9.out.kept KE (fun g cur hg _ => own_ne HXB.out (by decide) g cur hg)
  have QE := HQ9.out.kept KE (fun g cur hg _ => own_ne HXB.out (by decide) g cur hg)
  have hB := below_keeps (HBO.out.trans (HB9.out.mono HBO.out.size)) KE (Nat.le_trans HBO.out.size HB9.out.size) (fun i hi => Nat.le_of_eq hi.symm)
  clear fo o0 o1 o2 o3 o4 o5 o6 HXB KE
  generalize ((((((w3.setCell ⟨w.heap.size, 0, none⟩ (.slice A1 tr.length c1)).setCell ⟨w.heap.size, 1, none⟩ (.slice A2 js.length c2)).setCell ⟨w.heap.size, 2, none⟩ (.int .i64 E)).setCell ⟨w.heap.size, 3, none⟩ (.int .i64 L)).setCell ⟨w.heap.size, 4, none⟩ (.slice none 0 0)).setCell ⟨w.heap.size, 5, none⟩ (.int .i64 b)).setCell ⟨w.heap.size, 6, none⟩ (.int .i64 s) = wE at *
  have XE' : Blk wE w.heap.size 43 [.slice A1 tr.length c1, .slice A2 js.length c2, .int .i64 E, .int .i64 L, .slice none 0 0, .int .i64 b, .int .i64 s] := XE
  have r0 := XE'.cellAt (i := 0) rfl
  have r1 := XE'.cellAt (i := 1) rfl
  have r2 := XE'.cellAt (i := 2) rfl
  have r3 := XE'.cellAt (i := 3) rfl
  have r4 := XE'.cellAt (i := 4) rfl
  have r5 := XE'.cellAt (i := 5) rfl
  have r6 := XE'.cellAt (i := 6) rfl
  refine bodyPost_ret (v := .tuple #[.agg #[.slice A1 tr.length c1, .slice A2 js.length c2, .int .i64 E, .int .i64 L, .slice none 0 0, .int .i64 b, .int .i64 s], .int .i64 0]) (by simp [results, Tryz.results14, go_sem, r0, r1, r2, r3, r4, r5, r6]) rfl ?_
  first | exact ⟨_, _, b, s, rfl, PE, QE, hB⟩ | exact ⟨_, _, ⟨b, s, rfl⟩, PE, QE, hB⟩
end
end Dv
end Go.Proofs.YtbgiegecfapmlaaGreatDoor

namespace Go.Proofs.YtbgiegecfapmlaaGreatDoor
open Go.RowKit
set_option linter.unusedVariables false
set_option linter.unusedSimpArgs false
namespace Tp
open Rob (own_below own_block_lt ob_mem blk_below below_drew J own_base fc iv Goods)
open Job (jc jv)
section
variable {w w' : World}
set_option maxRecDepth 100000 in
set_option maxHeartbeats 4000000 in
theorem ints_true {A B : Option Addr} {n c d : Nat} {l : List Int} (h1 : Has w 3 1 (.slice A n c) n (l.map iv)) (h2 : Has w 3 1 (.slice B n d) n (l.map iv)) :
    Calls Tryz.prog 15 #[.slice A n c, .slice B n d] w fun e w' => e = .returned (.bool true) ∧ Below w.heap.size w w' := by
  have hln : l.length = n := by have := h1.1; simpa using this
  have hnm := h1.len
  have q0 : ((n : Int) != (n : Int)) = false := by simp
  have H1 := Lib.hid h1
  have H2 := Lib.hid h2
  have HLN := Lib.hid hln
  clear h1 h2 hln
  go_enter Tryz.func15, Tryz.ntmps15
  go_wp2_with fail
  go_loopw [5] (fun i wr => ∃ k : Nat, k ≤ n ∧ i = .int .i64 (k : Int) ∧ Below w.heap.size w wr) (fun i _ => n - (intOf i).toNat)
  case atStart => exact ⟨0, by omega, rfl, Below.refl _ _⟩
  case round =>
    obtain ⟨k, hk, rfl, D⟩ := hrel
    by_cases hlt : k < n
    · have hlti : (k : Int) < (n : Int) := by omega
      have hk0 : (0 : Int) ≤ (k : Int) := by omega
      have hk1 : (k : Int) + 1 ≤ 9223372036854775807 := by omega
      obtain ⟨u, hu⟩ : ∃ u, l[k]? = some u := ⟨_, List.getElem?_eq_getElem (by rw [HLN.out]; exact hlt)⟩
      obtain ⟨g1, o1, hA, hc1⟩ := (Rob.Has.down H1.out D).at_ (by omega)
      obtain ⟨g2, o2, hB, hc2⟩ := (Rob.Has.down H2.out D).at_ (by omega)
      have c1 : wr.cell? ⟨g1, o1 + k, none⟩ = some (.int .i64 u) := hc1 k _ (by rw [List.getElem?_map, hu]; rfl)
      have c2 : wr.cell? ⟨g2, o2 + k, none⟩ = some (.int .i64 u) := hc2 k _ (by rw [List.getElem?_map, hu]; rfl)
      have q1 : (u != u) = false := by simp
      have HD := Lib.hid D
      clear hc1 hc2 hu D
      subst hA hB
      go_wp2_with fail
      go_quiet (fail)
      have HD2 := Lib.hid (HD.out.trans (((Keeps.refl (fun _ => False) wr).drewN nq).below (fun _ _ h => h) |>.mono HD.out.size))
      go_wp2_with fail
      go_roundw
      case rel => exact ⟨k + 1, by omega, by simp, HD2.out⟩
      case measure => simp [intOf]; omega
    · have hlti : ¬ (k : Int) < (n : Int) := by omega
      go_wp2_with fail
      go_ret
      exact ⟨rfl, D⟩
theorem way_r (w : World) : Calls Tryz.prog 10 #[.bool true, .int .i64 2, .int .i64 1] w fun e w' => e = .returned Aw.PR ∧ w' = w := by
  unfold Aw.PR
  go_enter Tryz.func10, Tryz.ntmps10
  go_wp2_with fail
  go_ret
  exact ⟨rfl, rfl⟩
theorem way_d (w : World) : Calls Tryz.prog 10 #[.bool false, .int .i64 2, .int .i64 1] w fun e w' => e = .returned Dv.PR ∧ w' = w := by
  unfold Dv.PR
  go_enter Tryz.func10, Tryz.ntmps10
  go_wp2_with fail
  go_ret
  exact ⟨rfl, rfl⟩
end
end Tp
end Go.Proofs.YtbgiegecfapmlaaGreatDoor

namespace Go.Proofs.YtbgiegecfapmlaaGreatDoor
open Go.RowKit
set_option linter.unusedVariables false
set_option linter.unusedSimpArgs false
namespace Tp
open Rob (own_below own_block_lt ob_mem blk_below below_drew J own_base fc iv Goods infoI iv_one)
open Job (jc jv)
open Aw (Kn awake_is fine_all)
/-- A machine's cells. -/
def xg (PR l k : Value) : List Value := [PR, l, .slice none 0 0, k]
/-- What Run leaves. -/
structure RanG (PR : Value) (w w' : World) (x k : Nat) (lv : Value) (js : List J) (tr : List Int) (xs : List Fa) (Aj : Option Addr) (cj : Nat) (tv : Value) (bp g t : Nat) (l : List Int) (v : Value) : Prop where
  O : w'.ownsRow w.heap.size 3 1 v l.length (l.map iv)
  X : Blk w' x 69 (xg PR lv (.pointer (some ⟨k, 0, none⟩)))
  K : Kn w' k js tr xs ((t + l.length : Nat) : Int) Aj cj tv bp g
  k : Keeps (· = k) w w'
/-- A way whose machine runs. -/
structure ExW (PR : Value) : Prop where
  new : ∀ w : World, Calls Tryz.prog 9 #[PR] w fun e w' => ∃ x, e = .returned (.tuple #[.pointer (some ⟨x, 0, none⟩), .int .i64 0]) ∧ Blk w' x 69 (xg PR (.slice none 0 0) (.pointer none)) ∧ w.heap.size ≤ x ∧ Below w.heap.size w w'
  sub : ∀ {w : World} {base x : Nat} {lv : Value} {js : List J} {j : J}, Tabs w → Blk w x 69 (xg PR lv (.pointer none)) → w.ownsRow base 36 8 lv js.length (js.flatMap jc) → base ≤ w.heap.size → Job.good j = true → j.nm.size < 4611686018427387904 → js.length ≤ 100 →
    Calls Tryz.prog 11 #[.pointer (some ⟨x, 0, none⟩), jv j] w fun e w' => e = .returned (.tuple #[.int .i64 (js.length : Int), .int .i64 0]) ∧ ∃ lv', Blk w' x 69 (xg PR lv' (.pointer none)) ∧ w'.ownsRow base 36 8 lv' (js ++ [j]).length ((js ++ [j]).flatMap jc) ∧ Keeps (fun b => b = x ∨ lv.ownBlock = some b) w w'
  start : ∀ {w : World} {base x : Nat} {lv : Value} {js : List J}, Tabs w → Blk w x 69 (xg PR lv (.pointer none)) → w.ownsRow base 36 8 lv js.length (js.flatMap jc) → Goods js → Job.all js = true → js.length ≤ 12 →
    Calls Tryz.prog 12 #[.pointer (some ⟨x, 0, none⟩)] w fun e w' => e = .returned (.int .i64 0) ∧ ∃ (k : Nat) (Aj : Option Addr) (cj : Nat) (tv : Value) (bp g : Nat) (tr : List Int) (xs : List Fa), Blk w' x 69 (xg PR lv (.pointer (some ⟨k, 0, none⟩))) ∧ Kn w' k js tr xs 0 Aj cj tv bp g ∧ tr.length ≤ 1000000 ∧ w.heap.size ≤ k ∧ Keeps (· = x) w w'
  run : ∀ {w : World} {x k : Nat} {js : List J} {lv : Value} {tr : List Int} {xs : List Fa} {Aj : Option Addr} {cj : Nat} {tv : Value} {bp g t m : Nat}, Blk w x 69 (xg PR lv (.pointer (some ⟨k, 0, none⟩))) → Kn w k js tr xs (t : Int) Aj cj tv bp g → t ≤ tr.length → tr.length ≤ 1000000 → m ≤ 1000 →
    Calls Tryz.prog 13 #[.pointer (some ⟨x, 0, none⟩), .int .i64 (m : Int)] w fun e w' => ∃ v, e = .returned (.tuple #[v, .int .i64 0]) ∧ RanG PR w w' x k lv js tr xs Aj cj tv bp g t ((tr.drop t).take m) v
  rep : ∀ {w : World} {x k : Nat} {js : List J} {lv : Value} {tr : List Int} {xs : List Fa} {Aj : Option Addr} {cj : Nat} {bp g : Nat} {A : Option Addr} {c : Nat} {now : Int}, Blk w x 69 (xg PR lv (.pointer (some ⟨k, 0, none⟩))) → Kn w k js tr xs now Aj cj (.slice A tr.length c) bp g → js.length ≤ 12 → (∀ x ∈ js, x.nm.size ≤ 1000) → tr.length ≤ 1000000 →
    Calls Tryz.prog 14 #[.pointer (some ⟨x, 0, none⟩)] w fun e w' => ∃ (v1 v2 : Value) (n1 n2 b s : Int), e = .returned (.tuple #[.agg #[v1, v2, .int .i64 n1, .int .i64 n2, .slice none 0 0, .int .i64 b, .int .i64 s], .int .i64 0]) ∧
      Has w' 3 1 v1 tr.length (tr.map iv) ∧ Has w' 53 2 v2 js.length (xs.flatMap Fate.cf) ∧ Below w.heap.size w w'
theorem ex_r : ExW Aw.PR where
  new := Aw.new_x
  sub := Aw.submit_x
  start := fun T h O hg hall hn => (Aw.start_x T h O hg hall hn).mono fun e w' ⟨he, k, Aj, cj, tv, bp, g, h1, h2, h3, h4, h5⟩ => ⟨he, k, Aj, cj, tv, bp, g, _, _, h1, h2, by
    have := Rob.eend_bd hg
    unfold Aw.res
    rw [Rob.tr_result]
    omega, h3, h5⟩
  run := fun h hK ht hl hm => (Aw.run_x h hK ht hl hm).mono fun e w' ⟨v, he, hr⟩ => ⟨v, he, ⟨hr.O, hr.X, hr.K, hr.k⟩⟩
  rep := fun h hK hn hnm htl => (Aw.report_x h hK hn hnm htl).mono fun e w' ⟨v1, v2, b, s, he, h1, h2, h3⟩ => ⟨v1, v2, _, _, b, s, he, h1, h2, h3⟩
theorem ex_d : ExW Dv.PR where
  new := Dv.new_x
  sub := Dv.submit_x
  start := fun T h O hg hall hn => (Dv.start_x T h O hg hall hn).mono fun e w' ⟨he, k, Aj, cj, tv, bp, g, tr, xs, h1, h2, hts, h3, h4, h5⟩ => ⟨he, k, Aj, cj, tv, bp, g, tr, xs, h1, h2, hts, h3, h5⟩
  run := fun h hK ht hl hm => (Dv.run_x h hK ht hl hm).mono fun e w' ⟨v, he, hr⟩ => ⟨v, he, ⟨hr.O, hr.X, hr.K, hr.k⟩⟩
  rep := fun h hK hn hnm htl => (Dv.report_x h hK hn hnm htl).mono fun e w' ⟨v1, v2, b, s, he, h1, h2, h3⟩ => ⟨v1, v2, _, _, b, s, he, h1, h2, h3⟩
section
variable {w w' : World}
theorem own_take1 {n c k : Nat} {A : Option Addr} {l : List Int} (h : Has w 3 1 (.slice A n c) n (l.map iv)) (hk : k ≤ n) : Has w 3 1 (.slice A k c) k ((l.take k).map iv) ∧ k ≤ c := by
  have hln : l.length = n := by have := h.1; simpa using this
  rcases h.2 with ⟨hv, h0⟩ | ⟨g, off, cap, cur, hv, hnc, hcm, hg, hc⟩
  · injection hv with hA hn hc
    subst hA hc
    have hk0 : k = 0 := by omega
    subst hk0
    exact ⟨⟨by simp, .inl ⟨rfl, rfl⟩⟩, by omega⟩
  · injection hv with hA _ hcap
    subst hA hcap
    refine ⟨⟨by simp; omega, .inr ⟨g, off, c, cur, rfl, by omega, hcm, hg, fun j u hu => hc j u ?_⟩⟩, by omega⟩
    rw [List.map_take] at hu
    rw [List.getElem?_take] at hu
    split at hu
    · exact hu
    · cases hu
theorem goods_of {js : List J} (h : Job.all js = true) (hn : ∀ x ∈ js, x.nm.size ≤ 100) : Goods js := by
  intro x hx
  unfold Job.all at h
  simp only [Bool.and_eq_true, List.all_eq_true] at h
  exact ⟨h.2 x hx, by have := hn x hx; omega⟩
set_option maxRecDepth 100000 in
set_option maxHeartbeats 8000000 in
theorem pieces_is {PR : Value} (E : ExW PR) {rb : Bool} (hway : ∀ W, Calls Tryz.prog 10 #[.bool rb, .int .i64 2, .int .i64 1] W fun e w' => e = .returned PR ∧ w' = W)
    {A B : Option Addr} {c m cb : Nat} {js : List J} {α : Type} {f : α → Int} {by_ : List α} (T : Tabs w) (R : Row jc 8 w A js.length js) (RB : Row (fun x => [.int .i64 (f x)]) 1 w B m by_) :
    Calls Tryz.prog 3 #[.bool rb, .slice A js.length c, .slice B m cb] w fun e w' => e = .returned (.bool true) ∧ Below w.heap.size w w' := by
  obtain ⟨i0, hI0, hz0, hz1, hz2⟩ := infoI
  have CA := awake_is w T
  have hbl := RB.1
  have HBL := Lib.hid hbl
  have HT := Lib.hid T
  have HR := Lib.hid R
  have HRB := Lib.hid RB
  have HE := Lib.hid E
  have HW := Lib.hid hway
  clear T R RB hway E hbl
  go_enter Tryz.func3, Tryz.ntmps3
  go_upto_region 3 with (go_at_call 7; refine CA.mono ?_; rintro e w1 ⟨rfl, b1⟩)
  have CG := Job.fine_any (c := c) (HT.out.below b1) (Row.below HR.out b1)
  have HB1 := Lib.hid b1
  clear CA b1
  by_cases hf : Job.fine js = true
  · rw [hf] at CG
    obtain ⟨hn, hall, hnm⟩ := fine_all hf
    have hg := goods_of hall hnm
    have HG := Lib.hid hg
    have HALL := Lib.hid hall
    have HNM := Lib.hid hnm
    have HN := Lib.hid hn
    clear hf hg hall hn hnm
    by_cases hm : 60 < m
    · have q1 : decide ((60 : Int) < (m : Int)) = true := decide_eq_true (by omega)
      have q2 : (60 : Int) < (m : Int) := by omega
      go_wp2_with (go_at_call 8; refine CG.mono ?_; rintro e w2 ⟨rfl, b2⟩)
      go_ret
      exact ⟨rfl, HB1.out.trans (b2.mono HB1.out.size)⟩
    · have q1 : decide ((60 : Int) < (m : Int)) = false := decide_eq_false (by omega)
      have q2 : ¬ (60 : Int) < (m : Int) := by omega
      go_upto_region 5 with (go_at_call 8; refine CG.mono ?_; rintro e w2 ⟨rfl, b2⟩)
      have hB2 := HB1.out.trans (b2.mono HB1.out.size)
      have HB2 := Lib.hid hB2
      have HM := Lib.hid hm
      clear hB2 b2 HB1 CG q1 q2 hm
      go_wp2_with fail
      refine (HW.out _).mono ?_
      rintro e w3 ⟨rfl, rfl⟩
      go_wp2_with fail
      refine (HE.out.new _).mono ?_
      rintro e w4 ⟨x, rfl, hX, hx, b4⟩
      have HX := Lib.hid hX
      have HXG := Lib.hid (Nat.le_trans HB2.out.size hx)
      have HB4 := Lib.hid (HB2.out.trans (b4.mono HB2.out.size))
      clear hX hx b4 HW HB2
      go_wp2_with fail
      go_loopw [9] (fun i wr => ∃ (k : Nat) (lv : Value), k ≤ js.length ∧ i = .int .i64 (k : Int) ∧ Below w.heap.size w wr ∧ Blk wr x 69 (xg PR lv (.pointer none)) ∧ wr.ownsRow w.heap.size 36 8 lv k ((js.take k).flatMap jc)) (fun i _ => js.length - (intOf i).toNat)
      case atStart => exact ⟨0, _, by omega, rfl, HB4.out, HX.out, ⟨by simp, .inl ⟨rfl, rfl⟩⟩⟩
      case round =>
        clear HX HB4
        obtain ⟨k, lv, hk, hi, B, hX, O⟩ := hrel
        subst hi
        by_cases hkn : k < js.length
        · have hlt : (k : Int) < (js.length : Int) := by omega
          have hk0 : (0 : Int) ≤ (k : Int) := by omega
          have hk1 : (k : Int) + 1 ≤ 9223372036854775807 := by have := HN.out; omega
          have q1 : ((k : Int) != (k : Int)) = false := by simp
          obtain ⟨b, off, j, hA, hx, hb, c0, c1, c2, c3, c4, c5, c6, c7⟩ := Job.cells8 (Row.below HR.out B) hkn
          subst hA
          have hjm := List.mem_of_getElem? hx
          have hlen : (js.take k).length = k := by rw [List.length_take]; omega
          have O2 : wr.ownsRow w.heap.size 36 8 lv (js.take k).length ((js.take k).flatMap jc) := by rw [hlen]; exact O
          have CS := HE.out.sub (HT.out.below B) hX O2 B.size (HG.out j hjm).1 (HG.out j hjm).2 (by rw [hlen]; have := HN.out; omega)
          rw [hlen, ← take_next hx] at CS
          have hll : (js.take (k + 1)).length = k + 1 := by rw [List.length_take]; omega
          rw [hll] at CS
          have HOW := Lib.hid (own_block_lt O)
          have HBB := Lib.hid B
          unfold jv at CS
          clear hx hb O O2 hX B hjm hlen hll
          go_wp2_with (go_at_call 11; refine CS.mono ?_; rintro e w5 ⟨rfl, lv', h5, o5, k5⟩; have HH5 := Lib.hid h5; have HO5 := Lib.hid o5; have HK5 := Lib.hid k5; clear h5 o5 k5)
          go_roundw
          case rel => exact ⟨k + 1, lv', by omega, by simp, below_keeps HBB.out HK5.out HBB.out.size (fun b hb => by rcases hb with rfl | hb; exact HXG.out; exact (HOW.out b (ob_mem.2 hb)).1), HH5.out, HO5.out⟩
          case measure => simp [intOf]; omega
        · have hlt : ¬ (k : Int) < (js.length : Int) := by omega
          have hkn2 : k = js.length := by omega
          subst hkn2
          rw [List.take_length] at O
          have CS := HE.out.start (HT.out.below B) hX O HG.out HALL.out HN.out
          have HBB := Lib.hid B
          clear O hX B hlt hkn hk
          go_upto_region 15 with (go_at_call 12; refine CS.mono ?_; rintro e w5 ⟨rfl, k, Aj, cj, tv, bp, g, tr, xs, h5, hK5, hts, hk5, k5⟩)
          have HH5 := Lib.hid h5
          have HK5 := Lib.hid hK5
          have HTS := Lib.hid hts
          have HLTS := Lib.hid hK5.lts
          have HBk := Lib.hid (show w.heap.size ≤ k from Nat.le_trans HBB.out.size hk5)
          have HB5 := Lib.hid (below_keeps HBB.out k5 HBB.out.size (fun b hb => by rw [hb]; exact HXG.out))
          clear h5 hK5 hts hk5 k5 CS HBB
          go_wp2_with fail
          go_loopw [12, 13] (fun pv i wr => ∃ q cur : Nat, q ≤ m ∧ i = .int .i64 (q : Int) ∧ cur ≤ tr.length ∧ wr.ownsRow w5.heap.size 3 1 pv cur ((tr.take cur).map iv) ∧ Blk wr x 69 (xg PR lv (.pointer (some ⟨k, 0, none⟩))) ∧ Kn wr k js tr xs (cur : Int) Aj cj tv bp g ∧ Below w.heap.size w wr ∧ w5.heap.size ≤ wr.heap.size) (fun _ i _ => m - (intOf i).toNat)
          case atStart => exact ⟨0, 0, by omega, rfl, by omega, ⟨by simp, .inl ⟨rfl, rfl⟩⟩, HH5.out, HK5.out, HB5.out, Nat.le_refl _⟩
          case round =>
            clear HH5 HK5 HB5
            obtain ⟨q, cur, hq, hi, hcur, O, h, hK, B, hsz⟩ := hrel
            subst hi
            obtain ⟨AS, cS, hv⟩ := own_shape O
            subst hv
            have H := Lib.hid h
            have HK := Lib.hid hK
            have HB := Lib.hid B
            have HO := Lib.hid O
            have HSZ := Lib.hid hsz
            clear h hK B O hsz
            by_cases hqm : q < m
            · have hlt : (q : Int) < (m : Int) := by omega
              have hq0 : (0 : Int) ≤ (q : Int) := by omega
              have hq1 : (q : Int) + 1 ≤ 9223372036854775807 := by have := HM.out; omega
              obtain ⟨g3, off3, y, hA, hy, hgl, hc⟩ := HRB.out.at_ HB.out hqm
              have c0 : wr.cell? ⟨g3, off3 + q, none⟩ = some (.int .i64 (f y)) := by
                have := hc 0 _ rfl
                rwa [Nat.add_zero, Nat.mul_one] at this
              subst hA
              clear hc hgl hy
              generalize f y = u at *
              by_cases hu : u < 0
              · have q1 : decide (u < 0) = true := decide_eq_true hu
                go_wp2_with fail
                go_roundw
                case rel => exact ⟨q + 1, cur, by omega, by simp, hcur, HO.out, H.out, HK.out, HB.out, HSZ.out⟩
                case measure => simp [intOf]; omega
              · have q1 : decide (u < 0) = false := decide_eq_false hu
                by_cases hu2 : 50 < u
                · have q2 : decide (50 < u) = true := decide_eq_true hu2
                  go_wp2_with fail
                  go_roundw
                  case rel => exact ⟨q + 1, cur, by omega, by simp, hcur, HO.out, H.out, HK.out, HB.out, HSZ.out⟩
                  case measure => simp [intOf]; omega
                · have q2 : decide (50 < u) = false := decide_eq_false hu2
                  obtain ⟨mm, rfl⟩ := Int.eq_ofNat_of_zero_le (show 0 ≤ u by omega)
                  have CR := HE.out.run (m := mm) H.out HK.out hcur HTS.out (by omega)
                  have hll : ((tr.drop cur).take mm).length ≤ tr.length - cur := by rw [List.length_take, List.length_drop]; omega
                  have hnx : tr.take (cur + ((tr.drop cur).take mm).length) = tr.take cur ++ (tr.drop cur).take mm := by
                    rw [List.take_add]
                    congr 1
                    rw [List.length_take, List.length_drop]
                    by_cases hc : mm ≤ tr.length - cur
                    · rw [Nat.min_eq_left hc]
                    · rw [Nat.min_eq_right (by omega), List.take_of_length_le (by rw [List.length_drop]; omega), List.take_of_length_le (by rw [List.length_drop]; omega)]
                  generalize (tr.drop cur).take mm = l at *
                  have HNX := Lib.hid hnx
                  have HLL := Lib.hid hll
                  clear hu hu2 hll hnx
                  go_upto_region 23 with (go_at_call 13; refine CR.mono ?_; rintro e w6 ⟨v6, rfl, hr⟩; obtain ⟨A6, c6, e6⟩ := own_shape hr.O; subst e6)
                  have O6 := own_kept HO.out hr.k (fun g cur hg _ => own_ne HK.out.K (by decide) g cur hg)
                  have N6 := Has.of_own hr.O
                  have hk6 := hr.k
                  have HX6 := Lib.hid hr.X
                  have HK6 := Lib.hid hr.K
                  have HB6 := Lib.hid (below_keeps HB.out hk6 HB.out.size (fun b hb => by rw [hb]; exact HBk.out))
                  have HS6 := Lib.hid (Nat.le_trans HSZ.out hk6.size)
                  have HGO := Lib.hid (own_block_lt O6)
                  have hts := HTS.out
                  have hlll := HLL.out
                  have hs6 := HS6.out
                  clear hr hk6 CR H HK HB HO HSZ c0 q1 q2
                  go_wp2_with (at_builtin; refine wpList_append_has rfl (.tmp 93) (.tmp 94) 23 rfl i0 _ 8 Tryz.underlying23 hI0 hz0 hz1 hz2 rfl (by decide) rfl O6 A6 l.length c6 (l.map iv) rfl N6 (iv_one l) (by unfold maxLen; omega) (by omega) hs6 ?_; intro v7 w7 own7 g7 at7; obtain ⟨A7, c7, hv7⟩ := own_shape own7; subst hv7; have OWN7 := Lib.hid own7; have KG := Lib.hid (keeps_grown (Keeps.refl (fun b => (Value.slice AS cur cS).ownBlock = some b) w6) g7 (fun g hg => .inl hg)); clear own7 g7 at7)
                  go_roundw
                  case rel =>
                    obtain ⟨l1, l2, l3, l4, l5⟩ := HLTS.out
                    have hO : ∀ b, (Value.slice AS cur cS).ownBlock = some b → w5.heap.size ≤ b := fun b hb => (HGO.out b (ob_mem.2 hb)).1
                    have hws : w.heap.size ≤ w5.heap.size := by have := HBk.out; omega
                    have hK7 := HK6.out.kept KG.out (fun e => by have := hO _ e; omega) (fun a ha e => by have := hO _ e; have := l1 a ha; omega) (fun b hb e => by have := hO _ e; have := l2 b hb; omega) (fun e => by have := hO _ e; omega) (fun e => by have := hO _ e; omega)
                    exact ⟨q + 1, cur + l.length, by omega, by simp, by have := HLL.out; omega, by rw [HNX.out, List.map_append]; exact OWN7.out, HX6.out.kept KG.out (own_type_ne O6 HX6.out (by decide)), hK7, below_keeps HB6.out KG.out HB6.out.size (fun b hb => Nat.le_trans hws (hO b hb)), Nat.le_trans HS6.out KG.out.size⟩
                  case measure => simp [intOf]; omega
            · have hlt : ¬ (q : Int) < (m : Int) := by omega
              obtain ⟨A8, c8, e8⟩ := HK.out.T.shape
              subst e8
              have CR := HE.out.rep H.out HK.out HN.out (fun x hx => by have := HNM.out x hx; omega) HTS.out
              clear H
              go_upto_region 25 with (go_at_call 14; refine CR.mono ?_; rintro e w6 ⟨v1, v2, n1, n2, bz, sw, rfl, P1, P2, b6⟩; obtain ⟨A1, c1, e1⟩ := P1.shape; obtain ⟨A2, c2, e2⟩ := P2.shape; subst e1 e2; have HP1 := Lib.hid P1; have HB6 := Lib.hid b6; clear P1 P2 b6 CR)
              have XO := Blk.new w6 43 [.slice A1 tr.length c1, .slice A2 js.length c2, .int .i64 n1, .int .i64 n2, .slice none 0 0, .int .i64 bz, .int .i64 sw]
              have KO := (Keeps.refl (fun _ => False) w6).alloc (.cells #[.slice A1 tr.length c1, .slice A2 js.length c2, .int .i64 n1, .int .i64 n2, .slice none 0 0, .int .i64 bz, .int .i64 sw] 43)
              have y0 := XO.cellAt (i := 0) rfl
              simp only [List.toArray] at y0
              have b7 := KO.below (fun _ _ h => h)
              have P7 := Rob.Has.down HP1.out b7
              have O7 := Rob.Has.down (Rob.Has.down (Has.of_own HO.out) HB6.out) b7
              have HB7 := Lib.hid ((HB.out.trans (HB6.out.mono HB.out.size)).trans (b7.mono (Nat.le_trans HB.out.size HB6.out.size)))
              clear XO KO b7
              generalize w6.alloc (.cells #[.slice A1 tr.length c1, .slice A2 js.length c2, .int .i64 n1, .int .i64 n2, .slice none 0 0, .int .i64 bz, .int .i64 sw] 43) = w7 at *
              obtain ⟨PT, hcap⟩ := own_take1 P7 hcur
              have CI := ints_true O7 PT
              have hcl : (cur : Int) ≤ (tr.length : Int) := by omega
              have q1 : decide ((cur : Int) ≤ (tr.length : Int)) = true := decide_eq_true hcl
              have q2 : (cur : Int) ≤ (c1 : Int) := by omega
              have q3 : (0 : Int) ≤ (cur : Int) := by omega
              clear P7 O7 PT
              go_wp2_with (go_at_call 15; refine CI.mono ?_; rintro e w8 ⟨rfl, b8⟩)
              go_ret
              exact ⟨rfl, HB7.out.trans (b8.mono HB7.out.size)⟩
  · have hf2 : Job.fine js = false := by simpa using hf
    rw [hf2] at CG
    clear hf hf2
    go_wp2_with (go_at_call 8; refine CG.mono ?_; rintro e w2 ⟨rfl, b2⟩)
    go_ret
    exact ⟨rfl, HB1.out.trans (b2.mono HB1.out.size)⟩
end
end Tp
end Go.Proofs.YtbgiegecfapmlaaGreatDoor
