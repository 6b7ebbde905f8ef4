/- package kernel at the way Robust: watches, played, New; conditions: good jobs, at most a dozen, the library's tables as its text lays them. package trace: Busy and Switches answer a number, and leave memory as it is; kernel.Tick; conditions: none. kernel.sums: what is earned, and lost, of all; conditions: at most a dozen jobs, names of at most a thousand bytes. kernel.Report; conditions: at most a dozen jobs, names of at most a thousand bytes, no monitor. package exec at the way Robust: Start, Run, Report; conditions: good jobs, at most a dozen, the library's tables as its text lays them. -/
import Derived.Test.YtbgiegecfapmlaaGreatDoorW1
import Derived.Test.YtbgiegecfapmlaaGreatDoorM1
namespace Go.Proofs.YtbgiegecfapmlaaGreatDoor
open Go.RowKit
set_option linter.unusedVariables false
set_option linter.unusedSimpArgs false
namespace Aw
open Rob (own_below own_block_lt ob_mem blk_below below_drew J own_base result fc iv Goods)
open Job (jc jv)
set_option maxRecDepth 100000 in
theorem watches_nil (w : World) : Calls Tryz.prog 36 #[.slice none 0 0] w fun e w' => e = .returned (.int .i64 0) ∧ Below w.heap.size w w' := by
  have hmm := @run_makeMap Tryz.prog
  go_enter Tryz.func36, Tryz.ntmps36
  go_wp2_with fail
  go_loopw [4, 12] (fun e v wr => e = .int .i64 0 ∧ v = .int .i64 0 ∧ Below w.heap.size w wr) (fun _ _ _ => 0)
  case atStart =>
    refine ⟨rfl, rfl, ?_⟩
    exact ((Keeps.refl (fun _ => False) w).alloc _).below (fun _ _ h => h)
  case round =>
    obtain ⟨rfl, rfl, B⟩ := hrel
    have HB := Lib.hid B
    clear B
    go_wp2_with fail
    go_ret
    exact ⟨rfl, HB.out⟩
section
variable {w w' : World} {js : List J} {A : Option Addr} {c : Nat}
/-- What robust makes of jobs. -/
def res (js : List J) : Rob.St := result js (Job.eend js).toNat
set_option maxRecDepth 100000 in
set_option maxHeartbeats 4000000 in
theorem played_r (T : Tabs w) (R : Row jc 8 w A js.length js) (hA : ∀ a, A = some a → ∃ b off, a = ⟨b, off, none⟩) (hg : Goods js) (hall : Job.all js = true) (hn : js.length ≤ 12) :
    Calls Tryz.prog 37 #[PR, .slice A js.length c] w fun e w' => ∃ tv gf, e = .returned (.tuple #[tv, .slice (some ⟨gf, 0, none⟩) js.length js.length, .int .i64 0]) ∧
      w'.ownsRow w.heap.size 3 1 tv (res js).tr.length ((res js).tr.map iv) ∧ Blk w' gf 53 ((res js).fs.flatMap fc) ∧ w.heap.size ≤ gf ∧ (res js).fs.length = js.length ∧ Below w.heap.size w w' := by
  have CD := dover_r w
  have CR := fun W (hW : Below w.heap.size w W) => Rob.run_all (c := c) (T.below hW) (Row.below R hW) hA hg hall hn
  have HCR := Lib.hid CR
  unfold PR at *
  unfold res
  clear CR T R hA hg hall
  go_enter Tryz.func37, Tryz.ntmps37
  go_upto_region 5 with (go_at_call 58; refine CD.mono ?_; rintro e w1 ⟨rfl, b1⟩)
  have b2 := b1.alloc b1.size (.cells #[.int .i64 0, .int .i64 0] 73)
  have CR := HCR.out _ b2
  have HB2 := Lib.hid b2
  clear b1 b2 HCR CD
  generalize w1.alloc (.cells #[.int .i64 0, .int .i64 0] 73) = w2 at *
  go_upto_region 6 with (go_at_call 16; refine CR.mono ?_; rintro e w3 ⟨tv, gf, A2, n2, c2, A3, n3, c3, rfl, hT, hF, hgf, hlf, b3⟩; obtain ⟨A1, c1, e1⟩ := own_shape hT; subst e1; have HHT := Lib.hid hT; have HHF := Lib.hid hF; have GF := Lib.hid hgf; have HLF := Lib.hid hlf; have HHB3 := Lib.hid b3; clear hT hF hgf hlf b3 CR)
  have XO := Blk.new w3 49 [.slice A1 (result js (Job.eend js).toNat).tr.length c1, .slice (some ⟨gf, 0, none⟩) js.length js.length, .slice A2 n2 c2, .slice A3 n3 c3]
  have x0 := XO.cellAt (i := 0) rfl
  have x1 := XO.cellAt (i := 1) rfl
  have KO := (Keeps.refl (fun _ => False) w3).alloc (.cells #[.slice A1 (result js (Job.eend js).toNat).tr.length c1, .slice (some ⟨gf, 0, none⟩) js.length js.length, .slice A2 n2 c2, .slice A3 n3 c3] 49)
  clear XO
  generalize w3.alloc (.cells #[.slice A1 (result js (Job.eend js).toNat).tr.length c1, .slice (some ⟨gf, 0, none⟩) js.length js.length, .slice A2 n2 c2, .slice A3 n3 c3] 49) = w4 at *
  go_quiet (fail)
  have K5 := KO.drewN nq
  have HK5 := Lib.hid K5
  clear KO K5
  go_wp2_with fail
  have hb5 := HK5.out.below (fun _ _ h => h)
  refine bodyPost_ret (v := .tuple #[.slice A1 (result js (Job.eend js).toNat).tr.length c1, .slice (some ⟨gf, 0, none⟩) js.length js.length, .int .i64 0]) (by simp [results, Tryz.results37, go_sem]) rfl ?_
  have hT5 := own_base (own_below HHT.out hb5) HB2.out.size
  have hF5 := blk_below HHF.out hb5
  have hgf := GF.out
  have h2 := HB2.out.size
  have hB := (HB2.out.trans (HHB3.out.mono h2)).trans (hb5.mono (Nat.le_trans h2 HHB3.out.size))
  first | exact ⟨_, _, rfl, hT5, hF5, by omega, HLF.out, hB⟩ | exact ⟨_, rfl, hT5, hF5, by omega, HLF.out, hB⟩
/-- What the book of fates holds when the first n are told. -/
def booked (fs : List (Int × Int)) : Nat → List Fa
  | 0 => List.replicate fs.length ⟨0, 0⟩
  | n + 1 => match fs[n]? with
    | some f => (Fate.say (booked fs n) n f.1 f.2).2
    | none => booked fs n
theorem booked_len (fs : List (Int × Int)) (n : Nat) : (booked fs n).length = fs.length := by
  induction n with
  | zero => simp [booked]
  | succ n ih =>
    simp only [booked]
    cases fs[n]? with
    | none => exact ih
    | some f => rw [Fate.say_len]; exact ih
def book (fs : List (Int × Int)) : List Fa := booked fs fs.length
theorem say_any {w : World} {p g : Nat} {xs : List Fa} (i : Nat) (k t : Int) (hl : xs.length ≤ 200) (h : Fate.At w p g xs) (hi : i < xs.length) :
    Calls Tryz.prog 39 #[.pointer (some ⟨p, 0, none⟩), .int .i64 (i : Int), .int .i64 k, .int .i64 t] w fun e w' => (∃ r : Int, e = .returned (.int .i64 r)) ∧ Fate.At w' p g (Fate.say xs i k t).2 ∧ Keeps (· = g) w w' := by
  by_cases hb : k < 1 ∨ 5 < k ∨ t < 0
  · refine (Fate.say_no p g xs i k t w hl h (.inr hb)).mono ?_
    rintro e w' ⟨rfl, rfl⟩
    refine ⟨⟨_, rfl⟩, ?_, Keeps.refl _ _⟩
    have : (Fate.say xs i k t).2 = xs := by
      unfold Fate.say
      split
      · rfl
      · rename_i hn; exfalso; revert hn; simp; omega
    rw [this]; exact h
  · obtain ⟨f, hf⟩ : ∃ f, xs[i]? = some f := ⟨_, List.getElem?_eq_getElem hi⟩
    refine (Fate.say_yes p g xs i f k t w hl h hf (by omega) (by omega) (by omega) _ _ rfl).mono ?_
    rintro e w' ⟨rfl, h1, h2⟩
    exact ⟨⟨_, rfl⟩, h1, h2⟩
theorem clone_w (w : World) : Calls Tryz.prog 40 #[.slice none 0 0] w fun e w' => e = .returned (.slice none 0 0) ∧ w' = w := by
  have q := fun (W : World) (a : Option Addr) (n c n' c' : Nat) => Lib.run_eql_slice_nil (P := Tryz.prog) W 59 58 a n c n' c' Tryz.underlying59
  go_enter Tryz.func40, Tryz.ntmps40
  go_wp2_with fail
  go_ret
  exact ⟨rfl, rfl⟩
/-- A kernel's cells. -/
def kc (Aj : Option Addr) (n cj : Nat) (tv : Value) (bp : Nat) (now : Int) : List Value := [.slice Aj n cj, .slice none 0 0, tv, .pointer (some ⟨bp, 0, none⟩), .int .i64 now]
/-- A kernel at block k, over jobs, with a trace and a book of fates; it stands at a tick. -/
structure Kn (w : World) (k : Nat) (js : List J) (tr : List Int) (xs : List Fa) (now : Int) (Aj : Option Addr) (cj : Nat) (tv : Value) (bp g : Nat) : Prop where
  K : Blk w k 96 (kc Aj js.length cj tv bp now)
  R : Row jc 8 w Aj js.length js
  a : ∀ a, Aj = some a → a.block ≠ k
  T : Has w 3 1 tv tr.length (tr.map iv)
  F : Fate.At w bp g xs
  l : xs.length = js.length
  al : ∀ a, Aj = some a → a.block < w.heap.size
theorem Kn.down {k : Nat} {js : List J} {tr : List Int} {xs : List Fa} {now : Int} {Aj : Option Addr} {cj : Nat} {tv : Value} {bp g : Nat} (h : Kn w k js tr xs now Aj cj tv bp g) (b : Below w.heap.size w w') : Kn w' k js tr xs now Aj cj tv bp g :=
  ⟨blk_below h.K b, Row.below h.R b, h.a, Has.down' h.T b, ⟨blk_below h.F.B b, blk_below h.F.G b⟩, h.l, fun a ha => Nat.lt_of_lt_of_le (h.al a ha) b.size⟩
set_option maxRecDepth 100000 in
set_option maxHeartbeats 4000000 in
theorem new_k (T : Tabs w) (R : Row jc 8 w A js.length js) (hA : ∀ a, A = some a → ∃ b off, a = ⟨b, off, none⟩) (hg : Goods js) (hall : Job.all js = true) (hn : js.length ≤ 12) :
    Calls Tryz.prog 17 #[PR, .slice A js.length c, .slice none 0 0] w fun e w' => ∃ k Aj cj tv bp g, e = .returned (.tuple #[.pointer (some ⟨k, 0, none⟩), .int .i64 0]) ∧ Kn w' k js (res js).tr (book (res js).fs) 0 Aj cj tv bp g ∧ w.heap.size ≤ k ∧ (∀ a, Aj = some a → w.heap.size ≤ a.block) ∧ Below w.heap.size w w' := by
  have hns : ∀ x ∈ js, x.nm.size < 4611686018427387904 := fun x hx => (hg x hx).2
  have C1 := good_r w
  have C2 := fun W => jobs_r W
  have C3 := fun W (hW : Below w.heap.size w W) => Job.all_is (c := c) (T.below hW) (Row.below R hW) hns
  rw [hall] at C3
  have C4 := fun W => watches_nil W
  have C5 := fun W (hW : Below w.heap.size w W) => played_r (c := c) (T.below hW) (Row.below R hW) hA hg hall hn
  have C6 := fun W => Fate.new_any js.length W (by omega)
  have C7 := fun W (hW : Below w.heap.size w W) => Rob.clone_jobs (c := c) (Row.below R hW) hA (by omega)
  have HC1 := Lib.hid C1
  have HC2 := Lib.hid C2
  have HC3 := Lib.hid C3
  have HC4 := Lib.hid C4
  have HC5 := Lib.hid C5
  have HC6 := Lib.hid C6
  have HC7 := Lib.hid C7
  unfold PR at *
  clear C1 C2 C3 C4 C5 C6 C7 T R hA hg hall hns
  go_enter Tryz.func17, Tryz.ntmps17
  go_wp2_with fail
  refine HC1.out.mono ?_
  rintro e w1 ⟨rfl, b1⟩
  go_wp2_with fail
  refine (HC2.out _).mono ?_
  rintro e w2 ⟨rfl, rfl⟩
  go_wp2_with fail
  refine (HC3.out _ b1).mono ?_
  rintro e w3 ⟨rfl, b3⟩
  have B3 := b1.trans (b3.mono b1.size)
  go_wp2_with fail
  refine (HC4.out _).mono ?_
  rintro e w4 ⟨rfl, b4⟩
  have B4 := B3.trans (b4.mono B3.size)
  clear b1 b3 b4 B3 HC1 HC2 HC3 HC4
  go_wp2_with fail
  refine (HC5.out _ B4).mono ?_
  rintro e w5 ⟨tv, gf, rfl, hT, hF, hgf, hlf, b5⟩
  have B5 := B4.trans (b5.mono B4.size)
  obtain ⟨A1, c1, e1⟩ := own_shape hT
  subst e1
  have HT5 := Lib.hid (own_base hT B4.size)
  have HF5 := Lib.hid hF
  have HGF := Lib.hid hgf
  have HLF := Lib.hid hlf
  have HB5 := Lib.hid B5
  clear hT hF hgf hlf b5 B5 B4 HC5
  go_wp2_with fail
  refine (HC6.out _).mono ?_
  rintro e w6 ⟨bp, g, rfl, hbp, hgg, hFA, k6⟩
  have b6 := k6.below (fun _ _ h => h)
  have HB6 := Lib.hid (HB5.out.trans (b6.mono HB5.out.size))
  have HT6 := Lib.hid (own_below HT5.out b6)
  have HF6 := Lib.hid (blk_below HF5.out b6)
  have hgl := HF5.out.lt
  have HFA := Lib.hid hFA
  have HGG := Lib.hid (show w.heap.size ≤ g ∧ gf < g ∧ gf ≠ bp from ⟨Nat.le_trans HB5.out.size hgg, Nat.lt_of_lt_of_le hgl hgg, Nat.ne_of_lt (Nat.lt_of_lt_of_le hgl hbp)⟩)
  have HTG := Lib.hid (fun b (hb : (Value.slice A1 (res js).tr.length c1).ownBlock = some b) => (show b < g by have := (own_block_lt HT5.out b (ob_mem.2 hb)).2; omega))
  clear hbp hgg hFA k6 b6 hgl HC6 HT5 HF5 HB5
  generalize hfs : (res js).fs = fs at *
  have HFS := Lib.hid hfs
  clear hfs
  go_wp2_with fail
  go_loopw [51] (fun v wr => ∃ i : Nat, i ≤ js.length ∧ v = .int .i64 (i : Int) ∧ Below w.heap.size w wr ∧ wr.ownsRow w.heap.size 3 1 (.slice A1 (res js).tr.length c1) (res js).tr.length ((res js).tr.map iv) ∧ Blk wr gf 53 (fs.flatMap fc) ∧ Fate.At wr bp g (booked fs i)) (fun v _ => js.length - (intOf v).toNat)
  case atStart => exact ⟨0, by omega, rfl, HB6.out, HT6.out, HF6.out, by unfold booked; rw [HLF.out]; exact HFA.out⟩
  case round =>
    clear HB6 HT6 HF6 HFA
    obtain ⟨i, hi, rfl, B, hT, hF, hB⟩ := hrel
    by_cases hlt : i < js.length
    · have hlti : (i : Int) < (js.length : Int) := by omega
      have hi0 : (0 : Int) ≤ (i : Int) := by omega
      have hi1 : (i : Int) + 1 ≤ 9223372036854775807 := by omega
      obtain ⟨f, hf⟩ : ∃ f, fs[i]? = some f := ⟨_, List.getElem?_eq_getElem (by have := HLF.out; omega)⟩
      have d0 := hF.cellAt (flat_at Rob.fc_len hf (j := 0) rfl)
      have d1 := hF.cellAt (flat_at Rob.fc_len hf (j := 1) rfl)
      rw [Nat.add_zero] at d0
      have hbn : booked fs (i + 1) = (Fate.say (booked fs i) i f.1 f.2).2 := by simp only [booked]; rw [hf]
      have hbl := booked_len fs i
      have ba := (Below.refl wr.heap.size wr).alloc (Nat.le_refl _) (.cells #[.int .i64 f.1, .int .i64 f.2] 53)
      have X := Blk.new wr 53 [.int .i64 f.1, .int .i64 f.2]
      have x0 := X.cellAt (i := 0) rfl
      have x1 := X.cellAt (i := 1) rfl
      have CS := say_any (xs := booked fs i) i f.1 f.2 (by rw [hbl, HLF.out]; omega) (⟨blk_below hB.B ba, blk_below hB.G ba⟩ : Fate.At (wr.alloc (.cells #[.int .i64 f.1, .int .i64 f.2] 53)) bp g (booked fs i)) (by rw [hbl, HLF.out]; exact hlt)
      have HBN := Lib.hid hbn
      have B2 := Lib.hid (B.trans (ba.mono B.size))
      have HT2 := Lib.hid (own_below hT ba)
      have HF2 := Lib.hid (blk_below hF ba)
      clear hbn hbl ba X B hT hF hB hf
      go_upto_region 17 with fail
      generalize wr.alloc (.cells #[.int .i64 f.1, .int .i64 f.2] 53) = w7 at *
      clear d0 d1
      go_wp2_with (go_at_call 39; refine CS.mono ?_; rintro e w8 ⟨⟨r, rfl⟩, h8, k8⟩)
      go_roundw
      case rel =>
        have hgg := HGG.out
        refine ⟨i + 1, by omega, by simp, below_keeps B2.out k8 B2.out.size (fun b hb => by rw [hb]; exact hgg.1), own_kept HT2.out k8 (fun b _ _ hb e => by have := HTG.out b hb; omega), HF2.out.kept k8 (by omega), by rw [HBN.out]; exact h8⟩
      case measure => simp [intOf]; omega
    · have hlti : ¬ (i : Int) < (js.length : Int) := by omega
      have hin : i = js.length := by omega
      subst hin
      have hbk : booked fs js.length = book fs := by unfold book; rw [HLF.out]
      rw [hbk] at hB
      have CC := HC7.out wr B
      have HB := Lib.hid B
      have HT := Lib.hid hT
      have HBK := Lib.hid hB
      clear B hT hF hB hbk HC7 hlti
      go_wp2_with (first | (go_at_call 28; refine CC.mono ?_; rintro e w7 ⟨A', c', rfl, R7, hA7, b7⟩) | (go_at_call 40; refine (clone_w _).mono ?_; rintro e w8 ⟨rfl, rfl⟩))
      refine bodyPost_ret (v := .tuple #[.pointer (some ⟨w8.heap.size, 0, none⟩), .int .i64 0]) (by simp [results, Tryz.results17, go_sem]) rfl ?_
      have X := Blk.new w8 96 (kc A' js.length c' (.slice A1 (res js).tr.length c1) bp 0)
      have ba := (Below.refl w8.heap.size w8).alloc (Nat.le_refl _) (.cells (kc A' js.length c' (.slice A1 (res js).tr.length c1) bp 0).toArray 96)
      have hB := (HB.out.trans (b7.mono HB.out.size)).trans (ba.mono (Nat.le_trans HB.out.size b7.size))
      have hK : Kn (w8.alloc (.cells (kc A' js.length c' (.slice A1 (res js).tr.length c1) bp 0).toArray 96)) w8.heap.size js (res js).tr (book (res js).fs) 0 A' c' (.slice A1 (res js).tr.length c1) bp g :=
        ⟨X, Row.below R7 ba, fun a ha => by have := (hA7 a ha).2; omega, Has.of_own (own_below (own_below HT.out b7) ba), by rw [HFS.out]; exact ⟨blk_below (blk_below HBK.out.B b7) ba, blk_below (blk_below HBK.out.G b7) ba⟩, by rw [HFS.out]; unfold book; rw [booked_len]; exact HLF.out, fun a ha => Nat.lt_of_lt_of_le (hA7 a ha).2 ba.size⟩
      first | exact ⟨_, _, _, _, _, _, rfl, hK, Nat.le_trans HB.out.size b7.size, fun a ha => Nat.le_trans HB.out.size (hA7 a ha).1, hB⟩ | exact ⟨_, rfl, _, _, _, _, _, hK, Nat.le_trans HB.out.size b7.size, fun a ha => Nat.le_trans HB.out.size (hA7 a ha).1, hB⟩ | exact ⟨⟨_, _, _, _, _, hK⟩, Nat.le_trans HB.out.size b7.size, hB⟩
end
end Aw
end Go.Proofs.YtbgiegecfapmlaaGreatDoor

namespace Go.Proofs.YtbgiegecfapmlaaGreatDoor
open Go.RowKit
set_option linter.unusedVariables false
set_option linter.unusedSimpArgs false
namespace Aw
open Rob (own_below own_block_lt ob_mem blk_below below_drew J own_base result fc iv Goods)
open Job (jc jv)
theorem iv_at {w : World} {A : Option Addr} {n c : Nat} {l : List Int} (h : Has w 3 1 (.slice A n c) n (l.map iv)) {k : Nat} (hk : k < n) :
    ∃ g off x, A = some ⟨g, off, none⟩ ∧ l[k]? = some x ∧ w.cell? ⟨g, off + k, none⟩ = some (.int .i64 x) := by
  obtain ⟨g, off, hA, hc⟩ := h.at_ (by omega)
  have hl : l.length = n := by have := h.1; simpa using this
  have hx : l[k]? = some (l[k]'(by omega)) := List.getElem?_eq_getElem (by omega)
  exact ⟨g, off, _, hA, hx, hc k _ (by rw [List.getElem?_map, hx]; rfl)⟩
set_option maxRecDepth 100000 in
set_option maxHeartbeats 1000000 in
theorem busy_is {w : World} {A : Option Addr} {n c : Nat} {l : List Int} (h : Has w 3 1 (.slice A n c) n (l.map iv)) : Calls Tryz.prog 43 #[.slice A n c] w fun e w' => (∃ x : Int, e = .returned (.int .i64 x)) ∧ w' = w := by
  have hlen := h.len
  have H := Lib.hid h
  clear h
  go_enter Tryz.func43, Tryz.ntmps43
  go_wp2_with fail
  go_loopw [3, 8] (fun v i wr => ∃ (x : Int) (k : Nat), k ≤ n ∧ v = .int .i64 x ∧ i = .int .i64 (k : Int) ∧ wr = w) (fun _ i _ => n - (intOf i).toNat)
  case atStart => exact ⟨0, 0, by omega, rfl, rfl, rfl⟩
  case round =>
    obtain ⟨x, k, hk, rfl, rfl, rfl⟩ := hrel
    by_cases hlt : k < n
    · have hlti : (k : Int) < (n : Int) := by omega
      have hi0 : (0 : Int) ≤ (k : Int) := by omega
      have hi1 : (k : Int) + 1 ≤ 9223372036854775807 := by omega
      obtain ⟨g, off, y, hA, _, hc⟩ := iv_at H.out hlt
      subst hA
      by_cases hy : y = -1
      · subst hy
        go_wp2_with fail
        go_roundw
        case rel => exact ⟨x, k + 1, by omega, rfl, by simp, by first | rfl | trivial⟩
        case measure => simp [intOf]; omega
      · have q1 : (y != -1) = true := by simpa using hy
        clear hy
        go_wp2_with fail
        go_roundw
        case rel => exact ⟨_, k + 1, by omega, rfl, by simp, by first | rfl | trivial⟩
        case measure => simp [intOf]; omega
    · have hlti : ¬ (k : Int) < (n : Int) := by omega
      go_wp2_with fail
      go_ret
      exact ⟨⟨x, rfl⟩, rfl⟩
set_option maxRecDepth 100000 in
set_option maxHeartbeats 2000000 in
theorem switches_is {w : World} {A : Option Addr} {n c : Nat} {l : List Int} (h : Has w 3 1 (.slice A n c) n (l.map iv)) : Calls Tryz.prog 44 #[.slice A n c] w fun e w' => (∃ x : Int, e = .returned (.int .i64 x)) ∧ Drawn w w' := by
  have hlen := h.len
  have H := Lib.hid h
  clear h
  go_enter Tryz.func44, Tryz.ntmps44
  go_wp2_with fail
  go_loopw [3, 4] (fun v i wr => ∃ (x : Int) (k : Nat), (k ≤ n ∨ k = 0) ∧ v = .int .i64 x ∧ i = .int .i64 ((k : Int) + 1) ∧ Drawn w wr) (fun _ i _ => n + 1 - (intOf i).toNat)
  case atStart => exact ⟨0, 0, by omega, rfl, rfl, Drawn.refl w⟩
  case round =>
    obtain ⟨x, k, hk, rfl, rfl, D⟩ := hrel
    have Hw := H.out.kept (D.keeps (fun _ => False)) (fun _ _ _ _ h => h)
    by_cases hlt : k + 1 < n
    · have hlti : (k : Int) + 1 < (n : Int) := by omega
      have hi0 : (0 : Int) ≤ (k : Int) := by omega
      have hi2 : (0 : Int) ≤ (k : Int) + 1 := by omega
      have hi3 : (k : Int) < (n : Int) := by omega
      have hi1 : (k : Int) + 1 + 1 ≤ 9223372036854775807 := by omega
      have hw1 : wrap64 ((k : Int) + 1 - 1) = (k : Int) := by unfold wrap64; omega
      have hw2 : IntKind.i64.wrap ((k : Int) + 1 - 1) = (k : Int) := by rw [IntKind.wrap_i64]; omega
      have hw3 : IntKind.i64.wrap ((k : Int) + 1 + 1) = (k : Int) + 1 + 1 := by rw [IntKind.wrap_i64]; omega
      have hw4 : wrap64 ((k : Int) + 1 + 1) = (k : Int) + 1 + 1 := by unfold wrap64; omega
      obtain ⟨g, off, y, hA, _, hc⟩ := iv_at Hw hlt
      obtain ⟨g', off', z, hA', _, hc'⟩ := iv_at Hw (show k < n by omega)
      subst hA
      cases hA'
      have HD := Lib.hid D
      clear D Hw hk
      have hti : ((k : Int) + 1).toNat = k + 1 := by omega
      by_cases hyz : y = z
      · have q1 : (y != z) = false := by simpa using hyz
        clear hyz
        go_wp2_with fail
        go_quiet (fail)
        go_wp2_with fail
        go_roundw
        case rel => exact ⟨x, k + 1, by omega, rfl, by simp <;> omega, HD.out.drewN _⟩
        case measure => simp [intOf]; omega
      · have q1 : (y != z) = true := by simpa using hyz
        clear hyz
        by_cases hy : y = -1
        · have q2 : (y != -1) = false := by simpa using hy
          clear hy
          go_wp2_with fail
          go_quiet (fail)
          go_wp2_with fail
          go_roundw
          case rel => exact ⟨x, k + 1, by omega, rfl, by simp <;> omega, HD.out.drewN _⟩
          case measure => simp [intOf]; omega
        · have q2 : (y != -1) = true := by simpa using hy
          clear hy
          by_cases hz : z = -1
          · have q3 : (z != -1) = false := by simpa using hz
            clear hz
            go_wp2_with fail
            go_quiet (fail)
            go_wp2_with fail
            go_roundw
            case rel => exact ⟨x, k + 1, by omega, rfl, by simp <;> omega, HD.out.drewN _⟩
            case measure => simp [intOf]; omega
          · have q3 : (z != -1) = true := by simpa using hz
            clear hz
            go_wp2_with fail
            go_quiet (fail)
            go_wp2_with fail
            go_roundw
            case rel => exact ⟨_, k + 1, by omega, rfl, by simp <;> omega, HD.out.drewN _⟩
            case measure => simp [intOf]; omega
    · have hlti : ¬ (k : Int) + 1 < (n : Int) := by omega
      clear Hw
      go_wp2_with fail
      go_ret
      exact ⟨⟨x, rfl⟩, D⟩
section
variable {w w' : World} {k : Nat} {js : List J} {tr : List Int} {xs : List Fa} {Aj : Option Addr} {cj : Nat} {tv : Value} {bp g : Nat}
theorem Kn.kept {now : Int} (h : Kn w k js tr xs now Aj cj tv bp g) {S : Nat → Prop} (kk : Keeps S w w') (hk : ¬ S k) (ha : ∀ a, Aj = some a → ¬ S a.block) (ht : ∀ b, tv.ownBlock = some b → ¬ S b) (hb : ¬ S bp) (hg : ¬ S g) : Kn w' k js tr xs now Aj cj tv bp g :=
  ⟨h.K.kept kk hk, Rob.Row.kept' h.R kk ha, h.a, h.T.kept kk (fun b _ _ hb' => ht b hb'), h.F.kept kk hb hg, h.l, fun a ha => Nat.lt_of_lt_of_le (h.al a ha) kk.size⟩
theorem Kn.to {now now' : Int} (h : Kn w k js tr xs now Aj cj tv bp g) (kk : Keeps (· = k) w w') (hK : Blk w' k 96 (kc Aj js.length cj tv bp now')) : Kn w' k js tr xs now' Aj cj tv bp g :=
  ⟨hK, Rob.Row.kept' h.R kk h.a, h.a, h.T.kept kk (fun b cur hb _ => own_ne h.K (by decide) b cur hb), h.F.kept kk (fun e => by have := Blk.ne_ h.F.B h.K (by decide); exact this e) (fun e => by have := Blk.ne_ h.F.G h.K (by decide); exact this e), h.l, fun a ha => Nat.lt_of_lt_of_le (h.al a ha) kk.size⟩
theorem Kn.lts {now : Int} (h : Kn w k js tr xs now Aj cj tv bp g) : (∀ a, Aj = some a → a.block < w.heap.size) ∧ (∀ b, tv.ownBlock = some b → b < w.heap.size) ∧ bp < w.heap.size ∧ g < w.heap.size ∧ k < w.heap.size := by
  refine ⟨h.al, fun b hb => ?_, h.F.B.lt, h.F.G.lt, h.K.lt⟩
  rcases h.T.2 with ⟨h0, _⟩ | ⟨g, off, cap, cur, hv, _, _, hg, _⟩
  · rw [h0] at hb; cases hb
  · rw [hv] at hb; cases hb; exact (Array.getElem?_eq_some_iff.1 hg).1
theorem Kn.stay {now : Int} (h : Kn w k js tr xs now Aj cj tv bp g) (kk : Keeps (fun _ => False) w w') : Kn w' k js tr xs now Aj cj tv bp g := h.kept kk (fun h => h) (fun _ _ h => h) (fun _ _ h => h) (fun h => h) (fun h => h)
set_option maxRecDepth 100000 in
set_option maxHeartbeats 2000000 in
theorem tick_go {t : Nat} (h : Kn w k js tr xs (t : Int) Aj cj tv bp g) (ht : t < tr.length) (hl : tr.length ≤ 1000000) {v : Int} (hv : tr[t]? = some v) :
    Calls Tryz.prog 27 #[.pointer (some ⟨k, 0, none⟩)] w fun e w' => e = .returned (.tuple #[.int .i64 v, .bool true]) ∧ Kn w' k js tr xs ((t : Int) + 1) Aj cj tv bp g ∧ Keeps (· = k) w w' := by
  obtain ⟨A, c, rfl⟩ := h.T.shape
  obtain ⟨g', off, x, hA, hx, hc⟩ := iv_at h.T ht
  rw [hv] at hx
  cases hx
  subst hA
  have HB := Lib.hid h.K
  have hK := h.K
  unfold kc at hK
  have c2 := hK.cellAt (i := 2) rfl
  have c4 := hK.cellAt (i := 4) rfl
  have fk := hK.frozen
  have hgk : g' ≠ k := by
    rcases h.T.2 with ⟨h0, _⟩ | ⟨g2, off2, cap, cur, hv2, _, _, hg, _⟩
    · cases h0
    · cases hv2
      exact own_ne h.K (by decide) _ cur hg
  have n0 : decide ((t : Int) ≥ (tr.length : Int)) = false := by simp <;> omega
  have n1 : ¬ (tr.length : Int) ≤ (t : Int) := by omega
  have n2 : decide ((tr.length : Int) ≤ (t : Int)) = false := by simp <;> omega
  have hw : wrap64 ((t : Int) + 1) = (t : Int) + 1 := by unfold wrap64; omega
  have hw1 : wrap64 ((t : Int) + 1 - 1) = (t : Int) := by unfold wrap64; omega
  have hw2 : IntKind.i64.wrap ((t : Int) + 1 - 1) = (t : Int) := by rw [IntKind.wrap_i64]; omega
  have ht0 : (0 : Int) ≤ (t : Int) := by omega
  have ht1 : (t : Int) < (tr.length : Int) := by omega
  have H := Lib.hid h
  clear h hK hv ht
  go_enter Tryz.func27, Tryz.ntmps27
  go_wp2_with fail
  go_quiet (fail)
  go_upto_region 4 with fail
  have K1 := ((keep1 k w).drewN nq).setCell ⟨k, 4, none⟩ (.inl rfl) (.int .i64 ((t : Int) + 1))
  have B1 := (HB.out.drewN nq).set_ 4 (.int .i64 ((t : Int) + 1))
  have h1 := H.out.to K1 B1
  have HH1 := Lib.hid h1
  have HK1 := Lib.hid K1
  have hc1 : ((w.drewN nq).setCell ⟨k, 4, none⟩ (.int .i64 ((t : Int) + 1))).cell? ⟨g', off + t, none⟩ = some (.int .i64 v) := by
    rw [World.cell?_of_block (a := ⟨g', off + t, none⟩) (K1.block g' (World.block_lt_of_cell? w _ hc) hgk)]; exact hc
  unfold kc at B1
  have d2 := B1.cellAt (i := 2) rfl
  have d4 := B1.cellAt (i := 4) rfl
  clear c2 c4 fk hc K1 B1 h1 HB H
  generalize (w.drewN nq).setCell ⟨k, 4, none⟩ (.int .i64 ((t : Int) + 1)) = w1 at *
  go_quiet (fail)
  go_wp2_with fail
  refine bodyPost_ret (v := .tuple #[.int .i64 v, .bool true]) (by simp [results, Tryz.results27, go_sem]) rfl ?_
  rename_i nq2
  exact ⟨rfl, HH1.out.stay ((Keeps.refl _ w1).drewN _), HK1.out.drewN _⟩
set_option maxRecDepth 100000 in
set_option maxHeartbeats 2000000 in
theorem tick_end {t : Nat} (h : Kn w k js tr xs (t : Int) Aj cj tv bp g) (ht : tr.length ≤ t) :
    Calls Tryz.prog 27 #[.pointer (some ⟨k, 0, none⟩)] w fun e w' => e = .returned (.tuple #[.int .i64 (-1), .bool false]) ∧ Drawn w w' := by
  obtain ⟨A, c, rfl⟩ := h.T.shape
  have hK := h.K
  unfold kc at hK
  have c2 := hK.cellAt (i := 2) rfl
  have c4 := hK.cellAt (i := 4) rfl
  have n0 : decide ((t : Int) ≥ (tr.length : Int)) = true := by simp <;> omega
  have n1 : (tr.length : Int) ≤ (t : Int) := by omega
  have n2 : decide ((tr.length : Int) ≤ (t : Int)) = true := by simp <;> omega
  clear h hK ht
  go_enter Tryz.func27, Tryz.ntmps27
  go_wp2_with fail
  go_quiet (fail)
  go_wp2_with fail
  refine bodyPost_ret (v := .tuple #[.int .i64 (-1), .bool false]) (by simp [results, Tryz.results27, go_sem]) rfl ?_
  exact ⟨rfl, (Drawn.refl w).drewN _⟩
end
end Aw
end Go.Proofs.YtbgiegecfapmlaaGreatDoor

namespace Go.Proofs.YtbgiegecfapmlaaGreatDoor
open Go.RowKit
set_option linter.unusedVariables false
set_option linter.unusedSimpArgs false
namespace Aw
open Rob (own_below own_block_lt ob_mem blk_below below_drew J own_base result fc iv Goods)
open Job (jc jv)
/-- The rows of the ledger behind the first n jobs. -/
def rowsTo (js : List J) (bk : List Fa) : Nat → List LRow
  | 0 => []
  | n + 1 => match js[n]?, bk[n]? with
    | some j, some f => (Led.add (rowsTo js bk n) 0 j.nm j.val (f.k == 1)).2
    | _, _ => rowsTo js bk n
theorem add_len (xs : List LRow) (t : Int) (n : ByteArray) (v : Int) (e : Bool) : (Led.add xs t n v e).2.length ≤ xs.length + 1 := by
  unfold Led.add
  by_cases h : Led.may xs t v (if e then Led.earn xs else Led.loss xs) = 0
  · rw [if_pos h]; exact Nat.le_of_eq (by rw [List.length_append]; rfl)
  · rw [if_neg h]; exact Nat.le_succ _
theorem rowsTo_len (js : List J) (bk : List Fa) (n : Nat) : (rowsTo js bk n).length ≤ n := by
  induction n with
  | zero => exact Nat.le_refl _
  | succ n ih =>
    simp only [rowsTo]
    split
    · rename_i j f _ _
      have := add_len (rowsTo js bk n) 0 j.nm j.val (f.k == 1)
      omega
    · omega
section
variable {w w' : World} {k : Nat} {js : List J} {tr : List Int} {xs : List Fa} {Aj : Option Addr} {cj : Nat} {tv : Value} {bp g : Nat} {now : Int}
set_option maxRecDepth 100000 in
set_option maxHeartbeats 4000000 in
theorem sums_is (h : Kn w k js tr xs now Aj cj tv bp g) (hn : js.length ≤ 12) (hnm : ∀ x ∈ js, x.nm.size ≤ 1000) :
    Calls Tryz.prog 45 #[.pointer (some ⟨k, 0, none⟩)] w fun e w' => e = .returned (.tuple #[.int .i64 (Led.earn (rowsTo js xs js.length)), .int .i64 (Led.loss (rowsTo js xs js.length))]) ∧ Below w.heap.size w w' := by
  have CN := Led.new_any w
  have H := Lib.hid h
  have HNM := Lib.hid hnm
  have HXL := Lib.hid h.l
  clear h hnm
  go_enter Tryz.func45, Tryz.ntmps45
  go_upto_region 2 with (go_at_call 76; refine CN.mono ?_; rintro e w1 ⟨p, F, rfl, hF, hI, k1⟩)
  have b1 := k1.below (fun _ _ h => h)
  have h1 := H.out.down b1
  have c0 : w1.cell? ⟨k, 0, none⟩ = some (.slice Aj js.length cj) := h1.K.cellAt (i := 0) rfl
  have HF := Lib.hid hF
  have HI := Lib.hid hI
  have HB1 := Lib.hid b1
  clear CN hF hI k1 b1 h1
  go_wp2_with fail
  go_loopw [15] (fun v wr => ∃ (i : Nat) (F : Nat → Prop), i ≤ js.length ∧ v = .int .i64 (i : Int) ∧ Below w.heap.size w wr ∧ Led.Is wr p F (rowsTo js xs i) ∧ (∀ b, F b → w.heap.size ≤ b)) (fun v _ => js.length - (intOf v).toNat)
  case atStart => exact ⟨0, F, by omega, rfl, HB1.out, HI.out, HF.out⟩
  case round =>
    clear HB1 HI HF c0
    obtain ⟨i, F, hi, rfl, B, hI, hF⟩ := hrel
    by_cases hlt : i < js.length
    · have hlti : (i : Int) < (js.length : Int) := by omega
      have hi0 : (0 : Int) ≤ (i : Int) := by omega
      have hi1 : (i : Int) + 1 ≤ 9223372036854775807 := by omega
      have hr := H.out.down B
      obtain ⟨b, off, x, hA, hx, hb, c0, c1, c2, c3, c4, c5, c6, c7⟩ := Job.cells8 hr.R hlt
      obtain ⟨f, hf⟩ : ∃ f, xs[i]? = some f := ⟨_, List.getElem?_eq_getElem (by have := HXL.out; omega)⟩
      have X := Job.Box.of (Blk.new wr 36 (jc x))
      have ba := (Below.refl wr.heap.size wr).alloc (Nat.le_refl _) (.cells (jc x).toArray 36)
      have B2 := B.trans (ba.mono B.size)
      have h2 := hr.down ba
      have k3 : w.heap.size ≤ wr.heap.size := B.size
      have hkb : (wr.alloc (.cells (jc x).toArray 36)).cell? ⟨k, 3, none⟩ = some (.pointer (some ⟨bp, 0, none⟩)) := h2.K.cellAt (i := 3) rfl
      have hI2 := hI.stay ((Keeps.refl (fun _ => False) wr).alloc (.cells (jc x).toArray 36))
      have CO := Fate.of_any bp g xs i f _ (by rw [HXL.out]; omega) h2.F hf
      have hnx := HNM.out x (List.mem_of_getElem? hx)
      have hrow : rowsTo js xs (i + 1) = (Led.add (rowsTo js xs i) 0 x.nm x.val (f.k == 1)).2 := by simp only [rowsTo]; rw [hx, hf]
      have hrl := rowsTo_len js xs i
      unfold jc at X B2 h2 hkb hI2 CO
      have HB2 := Lib.hid B2
      have HX := Lib.hid X
      have HI2 := Lib.hid hI2
      have HF := Lib.hid hF
      have HROW := Lib.hid hrow
      have HK3 := Lib.hid k3
      rw [hA]
      clear B hI hF hr hA hx hb ba h2 hf hrow k3 X B2 hI2
      go_upto_region 5 with fail
      simp only [List.toArray] at hkb
      generalize wr.alloc (.cells #[.string x.nm, .int .i64 x.rel, .int .i64 x.dl, .int .i64 x.bud, .int .i64 x.act, .int .i64 x.val, .int .i64 x.cln, .bool x.hard] 36) = w2 at *
      clear c0 c1 c2 c3 c4 c5 c6 c7
      go_upto_region 6 with (go_at_call 77; refine CO.mono ?_; rintro e w3 ⟨rfl, k3⟩)
      have b3 := (k3.below (fun _ _ h => h)).trans (((Below.refl w3.heap.size w3).alloc (Nat.le_refl _) (.cells #[.int .i64 f.k, .int .i64 f.t] 53)).mono k3.size)
      have hI4 := (HI2.out.stay k3).stay ((Keeps.refl (fun _ => False) w3).alloc (.cells #[.int .i64 f.k, .int .i64 f.t] 53))
      have B4 := HB2.out.trans (b3.mono HB2.out.size)
      have X4 := HX.out.below b3
      have Y := Blk.new w3 53 [.int .i64 f.k, .int .i64 f.t]
      have y0 := Y.cellAt (i := 0) rfl
      obtain ⟨x0, x1, x2, x3, x4, x5, x6, x7⟩ := X4
      have HI4 := Lib.hid hI4
      have HB4 := Lib.hid B4
      clear k3 b3 hI4 B4 Y CO hkb HB2 HX HI2 x1 x2 x3 x4 x6 x7
      generalize w3.alloc (.cells #[.int .i64 f.k, .int .i64 f.t] 53) = w4 at *
      by_cases hm : f.k = 1
      · have q1 : (f.k == 1) = true := by simpa using hm
        obtain ⟨⟨r, ys⟩, hadd⟩ : ∃ q, Led.add (rowsTo js xs i) 0 x.nm x.val true = q := ⟨_, rfl⟩
        have CE := Led.earn_any p F (rowsTo js xs i) 0 x.nm x.val w4 (by omega) HI4.out (by omega) (by unfold maxLen; omega) r ys hadd
        have HR2 := Lib.hid (show rowsTo js xs (i + 1) = ys by rw [HROW.out, q1, hadd])
        clear hadd
        clear hm
        go_wp2_with (go_at_call 78; refine CE.mono ?_; rintro e w5 ⟨rfl, ⟨F', hI5, hF5⟩, k5⟩)
        go_roundw
        case rel => exact ⟨i + 1, F', by omega, by simp, below_keeps HB4.out k5 HB4.out.size HF.out, by rw [HR2.out]; exact hI5, fun b hb => (hF5 b hb).elim (HF.out b) (fun h => Nat.le_trans HB4.out.size h)⟩
        case measure => simp [intOf]; omega
      · have q1 : (f.k == 1) = false := by simpa using hm
        obtain ⟨⟨r, ys⟩, hadd⟩ : ∃ q, Led.add (rowsTo js xs i) 0 x.nm x.val false = q := ⟨_, rfl⟩
        have CE := Led.lose_any p F (rowsTo js xs i) 0 x.nm x.val w4 (by omega) HI4.out (by omega) (by unfold maxLen; omega) r ys hadd
        have HR2 := Lib.hid (show rowsTo js xs (i + 1) = ys by rw [HROW.out, q1, hadd])
        clear hadd
        clear hm
        go_wp2_with (go_at_call 79; refine CE.mono ?_; rintro e w5 ⟨rfl, ⟨F', hI5, hF5⟩, k5⟩)
        go_roundw
        case rel => exact ⟨i + 1, F', by omega, by simp, below_keeps HB4.out k5 HB4.out.size HF.out, by rw [HR2.out]; exact hI5, fun b hb => (hF5 b hb).elim (HF.out b) (fun h => Nat.le_trans HB4.out.size h)⟩
        case measure => simp [intOf]; omega
    · have hlti : ¬ (i : Int) < (js.length : Int) := by omega
      have hin : i = js.length := by omega
      subst hin
      have C1 := Led.earned_any p F (rowsTo js xs js.length) wr hI
      have C2 := Led.lost_any p F (rowsTo js xs js.length) wr hI
      have HB := Lib.hid B
      clear B hI hF hlti
      go_wp2_with (first | (go_at_call 80; refine C1.mono ?_; rintro e w5 ⟨rfl, rfl⟩) | (go_at_call 81; refine C2.mono ?_; rintro e w6 ⟨rfl, rfl⟩))
      refine bodyPost_ret (v := .tuple #[.int .i64 (Led.earn (rowsTo js xs js.length)), .int .i64 (Led.loss (rowsTo js xs js.length))]) (by simp [results, Tryz.results45, go_sem]) rfl ?_
      exact ⟨rfl, HB.out⟩
end
end Aw
end Go.Proofs.YtbgiegecfapmlaaGreatDoor

namespace Go.Proofs.YtbgiegecfapmlaaGreatDoor
open Go.RowKit
set_option linter.unusedVariables false
set_option linter.unusedSimpArgs false
namespace Aw
open Rob (own_below own_block_lt ob_mem blk_below below_drew J own_base result fc iv Goods)
open Job (jc jv)
theorem clone_ints {w : World} {A : Option Addr} {n c : Nat} {l : List Int} (h : Has w 3 1 (.slice A n c) n (l.map iv)) (hn : n ≤ 1000000) :
    Calls Tryz.prog 41 #[.slice A n c] w fun e w' => ∃ A' c', e = .returned (.slice A' n c') ∧ Has w' 3 1 (.slice A' n c') n (l.map iv) ∧ Below w.heap.size w w' := by
  have hl : l.length = n := by have := h.1; simpa using this
  obtain ⟨i0, hI0, hz0, hz1, hz2⟩ := Rob.infoI
  rcases h.2 with ⟨hv, h0⟩ | ⟨g, off, cap, cur, hv, hnc, hcm, hg, hc⟩
  · injection hv with hA hn' hc'
    subst hA hn' hc'
    refine (Tryz.slices_Clone_nil 0 0 w).mono ?_
    rintro e w' ⟨rfl, rfl⟩
    exact ⟨_, _, rfl, h, Below.refl _ _⟩
  · injection hv with hA _ hcc
    subst hA hcc
    refine (Tryz.slices_Clone i0 _ 1 8 hI0 hz0 hz1 hz2 rfl (by omega) Tryz.sizeOf3 g off n c (l.map iv) w h.1 (by unfold maxLen; omega) (by omega) (fun j u hu => by rw [cell_of_row w g (off + j) cur 3 (0, 0) hg]; exact hc j u hu) (Rob.iv_one l)).mono ?_
    rintro e w' ⟨v', rfl, own, _, b⟩
    obtain ⟨A', c', e'⟩ := own_shape own
    subst e'
    exact ⟨A', c', rfl, Has.of_own own, b⟩
theorem all_b {w : World} {p g : Nat} {xs : List Fa} (h : Fate.At w p g xs) (hl : xs.length ≤ 200) :
    Calls Tryz.prog 42 #[.pointer (some ⟨p, 0, none⟩)] w fun e w' => ∃ A' c', e = .returned (.slice A' xs.length c') ∧ Has w' 53 2 (.slice A' xs.length c') xs.length (xs.flatMap Fate.cf) ∧ Below w.heap.size w w' :=
  (Fate.all_any p g xs w hl h).mono fun _ _ ⟨A', c', he, hh, _, k⟩ => ⟨A', c', he, hh, k.below (fun _ _ h => h)⟩
theorem busy_b {w : World} {A : Option Addr} {n c : Nat} {l : List Int} (h : Has w 3 1 (.slice A n c) n (l.map iv)) : Calls Tryz.prog 43 #[.slice A n c] w fun e w' => (∃ x : Int, e = .returned (.int .i64 x)) ∧ Below w.heap.size w w' :=
  (busy_is h).mono fun _ _ ⟨he, hw⟩ => ⟨he, by rw [hw]; exact Below.refl _ _⟩
theorem switches_b {w : World} {A : Option Addr} {n c : Nat} {l : List Int} (h : Has w 3 1 (.slice A n c) n (l.map iv)) : Calls Tryz.prog 44 #[.slice A n c] w fun e w' => (∃ x : Int, e = .returned (.int .i64 x)) ∧ Below w.heap.size w w' :=
  (switches_is h).mono fun _ _ ⟨he, hd⟩ => ⟨he, (hd.keeps (fun _ => False)).below (fun _ _ h => h)⟩
section
variable {w w' : World} {k : Nat} {js : List J} {tr : List Int} {xs : List Fa} {Aj : Option Addr} {cj : Nat} {bp g : Nat} {now : Int}
set_option maxRecDepth 100000 in
set_option maxHeartbeats 8000000 in
theorem report_is {A : Option Addr} {c : Nat} (h : Kn w k js tr xs now Aj cj (.slice A tr.length c) bp g) (hn : js.length ≤ 12) (hnm : ∀ x ∈ js, x.nm.size ≤ 1000) (htl : tr.length ≤ 1000000) :
    Calls Tryz.prog 18 #[.pointer (some ⟨k, 0, none⟩)] w fun e w' => ∃ (v1 v2 : Value) (b s : Int), e = .returned (.agg #[v1, v2, .int .i64 (Led.earn (rowsTo js xs js.length)), .int .i64 (Led.loss (rowsTo js xs js.length)), .slice none 0 0, .int .i64 b, .int .i64 s]) ∧
      Has w' 3 1 v1 tr.length (tr.map iv) ∧ Has w' 53 2 v2 js.length (xs.flatMap Fate.cf) ∧ Below w.heap.size w w' := by
  have bO := (Below.refl w.heap.size w).alloc (Nat.le_refl _) (.cells #[.slice none 0 0, .slice none 0 0, .int .i64 0, .int .i64 0, .slice none 0 0, .int .i64 0, .int .i64 0] 43)
  have XO := Blk.new w 43 [.slice none 0 0, .slice none 0 0, .int .i64 0, .int .i64 0, .slice none 0 0, .int .i64 0, .int .i64 0]
  have h1 := h.down bO
  have hOl := XO.lt
  have HBO := Lib.hid bO
  have HXO := Lib.hid XO
  have H1 := Lib.hid h1
  have HOL := Lib.hid hOl
  have HNM := Lib.hid hnm
  clear h bO XO h1 hOl hnm
  go_enter Tryz.func18, Tryz.ntmps18
  go_upto_region 1 with fail
  generalize w.alloc (.cells #[.slice none 0 0, .slice none 0 0, .int .i64 0, .int .i64 0, .slice none 0 0, .int .i64 0, .int .i64 0] 43) = w1 at *
  go_cut [3] (fun v wx => ∃ (R : Nat) (v1 v2 : Value) (b s : Int), v = .pointer (some ⟨R, 0, none⟩) ∧ Has wx 3 1 v1 tr.length (tr.map iv) ∧ Has wx 53 2 v2 js.length (xs.flatMap Fate.cf) ∧ Blk wx R 43 [v1, v2, .int .i64 0, .int .i64 0, .slice none 0 0, .int .i64 b, .int .i64 s] ∧ w1.heap.size ≤ R ∧ Below w1.heap.size w1 wx)
  case first =>
    have hd := below_drew w1
    have h2 := H1.out.down hd
    have hS0 : w1.drew.cell? ⟨k, 2, none⟩ = some (.slice A tr.length c) ∧ w1.drew.cell? ⟨k, 3, none⟩ = some (.pointer (some ⟨bp, 0, none⟩)) := ⟨h2.K.cellAt (i := 2) rfl, h2.K.cellAt (i := 3) rfl⟩
    have HH2 := Lib.hid h2
    have HD := Lib.hid hd
    have HSS : Hid (∀ W, Kn W k js tr xs now Aj cj (.slice A tr.length c) bp g → W.cell? ⟨k, 2, none⟩ = some (.slice A tr.length c) ∧ W.cell? ⟨k, 3, none⟩ = some (.pointer (some ⟨bp, 0, none⟩))) := Lib.hid (fun W hW => ⟨hW.K.cellAt (i := 2) rfl, hW.K.cellAt (i := 3) rfl⟩)
    have CC : Hid (∀ W, Kn W k js tr xs now Aj cj (.slice A tr.length c) bp g → _) := Lib.hid (fun W hW => clone_ints hW.T (by omega))
    have CA : Hid (∀ W, Kn W k js tr xs now Aj cj (.slice A tr.length c) bp g → _) := Lib.hid (fun W hW => all_b hW.F (by rw [hW.l]; omega))
    have CB : Hid (∀ W, Kn W k js tr xs now Aj cj (.slice A tr.length c) bp g → _) := Lib.hid (fun W hW => busy_b hW.T)
    have CS : Hid (∀ W, Kn W k js tr xs now Aj cj (.slice A tr.length c) bp g → _) := Lib.hid (fun W hW => switches_b hW.T)
    have HXL := Lib.hid h2.l
    clear hd h2
    refine wp_region_held_drew (S := fun W => W.cell? ⟨k, 2, none⟩ = some (.slice A tr.length c) ∧ W.cell? ⟨k, 3, none⟩ = some (.pointer (some ⟨bp, 0, none⟩))) (by kernel_rfl) hS0 (fun hHeld => ?_)
    generalize w1.drew = w2 at *
    have B2 := Below.refl w2.heap.size w2
    refine wpAnyH_take (i := 0) (oi := ⟨some 6, _, _, _, _, _⟩) (v := ?_) rfl (by kernel_rfl) (by kernel_rfl) (by kernel_rfl) (fun _ _ _ h => h) (Or.inl ⟨by kernel_rfl, ?_⟩) (by assumption) ?_
    rotate_left
    · intro w hSw; (try dsimp only at hSw); obtain ⟨q1, q2⟩ := hSw; go_simp; try with_reducible rfl
    rotate_left
    try simp only [Act.put, List.setIfInBounds_toArray, List.set_cons_zero, List.set_cons_succ]
    refine wpAnyH_take (i := 1) (oi := ⟨some 7, _, _, _, _, _⟩) (v := ?_) rfl (by kernel_rfl) (by kernel_rfl) (by kernel_rfl) (fun _ _ _ h => h) (Or.inl ⟨by kernel_rfl, ?_⟩) (by assumption) ?_
    rotate_left
    · intro w hSw; (try dsimp only at hSw); obtain ⟨q1, q2⟩ := hSw; go_simp; try with_reducible rfl
    rotate_left
    try simp only [Act.put, List.setIfInBounds_toArray, List.set_cons_zero, List.set_cons_succ]
    refine wpAnyH_take (i := 2) (oi := ⟨some 8, _, _, _, _, _⟩) (v := ?_) rfl (by kernel_rfl) (by kernel_rfl) (by kernel_rfl) (fun _ _ _ h => h) (Or.inl ⟨by kernel_rfl, ?_⟩) (by assumption) ?_
    rotate_left
    · intro w hSw; (try dsimp only at hSw); obtain ⟨q1, q2⟩ := hSw; go_simp; try with_reducible rfl
    rotate_left
    try simp only [Act.put, List.setIfInBounds_toArray, List.set_cons_zero, List.set_cons_succ]
    refine wpAnyH_take (i := 3) (oi := ⟨some 9, _, _, _, _, _⟩) (v := ?_) rfl (by kernel_rfl) (by kernel_rfl) (by kernel_rfl) (fun _ _ _ h => h) (Or.inl ⟨by kernel_rfl, ?_⟩) (by assumption) ?_
    rotate_left
    · intro w hSw; (try dsimp only at hSw); obtain ⟨q1, q2⟩ := hSw; go_simp; try with_reducible rfl
    rotate_left
    try simp only [Act.put, List.setIfInBounds_toArray, List.set_cons_zero, List.set_cons_succ]
    refine wpAnyH_take (i := 5) (oi := ⟨some 11, _, _, _, _, _⟩) (v := ?_) rfl (by kernel_rfl) (by kernel_rfl) (by kernel_rfl) (fun _ _ _ h => h) (Or.inl ⟨by kernel_rfl, ?_⟩) (by assumption) ?_
    rotate_left
    · intro w hSw; (try dsimp only at hSw); obtain ⟨q1, q2⟩ := hSw; go_simp; try with_reducible rfl
    rotate_left
    try simp only [Act.put, List.setIfInBounds_toArray, List.set_cons_zero, List.set_cons_succ]
    refine wpAnyH_take (i := 6) (oi := ⟨some 12, _, _, _, _, _⟩) (v := ?_) rfl (by kernel_rfl) (by kernel_rfl) (by kernel_rfl) (fun _ _ _ h => h) (Or.inl ⟨by kernel_rfl, ?_⟩) (by assumption) ?_
    rotate_left
    · intro w hSw; (try dsimp only at hSw); obtain ⟨q1, q2⟩ := hSw; go_simp; try with_reducible rfl
    rotate_left
    try simp only [Act.put, List.setIfInBounds_toArray, List.set_cons_zero, List.set_cons_succ]
    refine wpAnyH_take (i := 7) (oi := ⟨some 13, _, _, _, _, _⟩) (v := ?_) rfl (by kernel_rfl) (by kernel_rfl) (by kernel_rfl) (fun _ _ _ h => h) (Or.inl ⟨by kernel_rfl, ?_⟩) (by assumption) ?_
    rotate_left
    · intro w hSw; (try dsimp only at hSw); obtain ⟨q1, q2⟩ := hSw; go_simp; try with_reducible rfl
    rotate_left
    try simp only [Act.put, List.setIfInBounds_toArray, List.set_cons_zero, List.set_cons_succ]
    refine wpAnyH_take (i := 8) (oi := ⟨some 14, _, _, _, _, _⟩) (v := ?_) rfl (by kernel_rfl) (by kernel_rfl) (by kernel_rfl) (fun _ _ _ h => h) (Or.inl ⟨by kernel_rfl, ?_⟩) (by assumption) ?_
    rotate_left
    · intro w hSw; (try dsimp only at hSw); obtain ⟨q1, q2⟩ := hSw; go_simp; try with_reducible rfl
    rotate_left
    try simp only [Act.put, List.setIfInBounds_toArray, List.set_cons_zero, List.set_cons_succ]
    refine wpAnyH_take (i := 10) (oi := ⟨some 16, _, _, _, _, _⟩) (v := ?_) rfl (by kernel_rfl) (by kernel_rfl) (by kernel_rfl) (fun _ _ _ h => h) (Or.inl ⟨by kernel_rfl, ?_⟩) (by assumption) ?_
    rotate_left
    · intro w hSw; (try dsimp only at hSw); obtain ⟨q1, q2⟩ := hSw; go_simp; try with_reducible rfl
    rotate_left
    try simp only [Act.put, List.setIfInBounds_toArray, List.set_cons_zero, List.set_cons_succ]
    refine wpAnyH_take (i := 11) (oi := ⟨some 17, _, _, _, _, _⟩) (v := ?_) rfl (by kernel_rfl) (by kernel_rfl) (by kernel_rfl) (fun _ _ _ h => h) (Or.inl ⟨by kernel_rfl, ?_⟩) (by assumption) ?_
    rotate_left
    · intro w hSw; (try dsimp only at hSw); obtain ⟨q1, q2⟩ := hSw; go_simp; try with_reducible rfl
    rotate_left
    try simp only [Act.put, List.setIfInBounds_toArray, List.set_cons_zero, List.set_cons_succ]
    refine wpAnyH_take (i := 12) (oi := ⟨some 18, _, _, _, _, _⟩) (v := ?_) rfl (by kernel_rfl) (by kernel_rfl) (by kernel_rfl) (fun _ _ _ h => h) (Or.inl ⟨by kernel_rfl, ?_⟩) (by assumption) ?_
    rotate_left
    · intro w hSw; (try dsimp only at hSw); obtain ⟨q1, q2⟩ := hSw; go_simp; try with_reducible rfl
    rotate_left
    try simp only [Act.put, List.setIfInBounds_toArray, List.set_cons_zero, List.set_cons_succ]
    refine wpAnyH_take (i := 13) (oi := ⟨some 19, _, _, _, _, _⟩) (v := ?_) rfl (by kernel_rfl) (by kernel_rfl) (by kernel_rfl) (fun _ _ _ h => h) (Or.inl ⟨by kernel_rfl, ?_⟩) (by assumption) ?_
    rotate_left
    · intro w hSw; (try dsimp only at hSw); obtain ⟨q1, q2⟩ := hSw; go_simp; try with_reducible rfl
    rotate_left
    try simp only [Act.put, List.setIfInBounds_toArray, List.set_cons_zero, List.set_cons_succ]
    refine wpAnyH_take (i := 15) (oi := ⟨some 21, _, _, _, _, _⟩) (v := ?_) rfl (by kernel_rfl) (by kernel_rfl) (by kernel_rfl) (fun _ _ _ h => h) (Or.inl ⟨by kernel_rfl, ?_⟩) (by assumption) ?_
    rotate_left
    · intro w hSw; (try dsimp only at hSw); obtain ⟨q1, q2⟩ := hSw; go_simp; try with_reducible rfl
    rotate_left
    try simp only [Act.put, List.setIfInBounds_toArray, List.set_cons_zero, List.set_cons_succ]
    refine wpAnyH_take (i := 16) (oi := ⟨some 22, _, _, _, _, _⟩) (v := ?_) rfl (by kernel_rfl) (by kernel_rfl) (by kernel_rfl) (fun _ _ _ h => h) (Or.inl ⟨by kernel_rfl, ?_⟩) (by assumption) ?_
    rotate_left
    · intro w hSw; (try dsimp only at hSw); obtain ⟨q1, q2⟩ := hSw; go_simp; try with_reducible rfl
    rotate_left
    try simp only [Act.put, List.setIfInBounds_toArray, List.set_cons_zero, List.set_cons_succ]
    refine wpAnyH_take (i := 17) (oi := ⟨some 23, _, _, _, _, _⟩) (v := ?_) rfl (by kernel_rfl) (by kernel_rfl) (by kernel_rfl) (fun _ _ _ h => h) (Or.inl ⟨by kernel_rfl, ?_⟩) (by assumption) ?_
    rotate_left
    · intro w hSw; (try dsimp only at hSw); obtain ⟨q1, q2⟩ := hSw; go_simp; try with_reducible rfl
    rotate_left
    try simp only [Act.put, List.setIfInBounds_toArray, List.set_cons_zero, List.set_cons_succ]
    refine wpAnyH_take (i := 18) (oi := ⟨some 24, _, _, _, _, _⟩) (v := ?_) rfl (by kernel_rfl) (by kernel_rfl) (by kernel_rfl) (fun _ _ _ h => h) (Or.inl ⟨by kernel_rfl, ?_⟩) (by assumption) ?_
    rotate_left
    · intro w hSw; (try dsimp only at hSw); obtain ⟨q1, q2⟩ := hSw; go_simp; try with_reducible rfl
    rotate_left
    try simp only [Act.put, List.setIfInBounds_toArray, List.set_cons_zero, List.set_cons_succ]
    refine wpAnyH_ready (rs := [4, 21]) (by kernel_rfl) (by simp) ?_
    refine AllReadyH.cons (o := ⟨some 10, _, _, _, _, _⟩) rfl (fun K hK => ?_) (AllReadyH.cons (o := ⟨some 3, _, _, _, _, _⟩) rfl (fun K hK => ?_) AllReadyH.nil)
    · skip
      go_simp
      refine (CC.out _ (HH2.out.down B2)).mono ?_
      rintro e w3 ⟨A1, c1, rfl, P3, ba⟩
      have B3 := B2.trans (ba.mono B2.size)
      clear B2 ba
      go_wp2_with fail
      refine hK.out _ _ (HSS.out _ (HH2.out.down B3)) (fun hHeld => ?_)
      clear hK K
      try simp only [Act.put, List.setIfInBounds_toArray, List.set_cons_zero, List.set_cons_succ]
      refine wpAnyH_ready (rs := [9, 21]) (by kernel_rfl) (by simp) ?_
      refine AllReadyH.cons (o := ⟨some 15, _, _, _, _, _⟩) rfl (fun K hK => ?_) (AllReadyH.cons (o := ⟨some 3, _, _, _, _, _⟩) rfl (fun K hK => ?_) AllReadyH.nil)
      · skip
        go_simp
        refine (CA.out _ (HH2.out.down B3)).mono ?_
        rintro e w4 ⟨A2, c2, rfl, Q4, ba⟩
        have B4 := B3.trans (ba.mono B3.size)
        have P4 := Has.down' P3 ba
        clear B3 P3 ba
        go_wp2_with fail
        refine hK.out _ _ (HSS.out _ (HH2.out.down B4)) (fun hHeld => ?_)
        clear hK K
        try simp only [Act.put, List.setIfInBounds_toArray, List.set_cons_zero, List.set_cons_succ]
        refine wpAnyH_ready (rs := [14, 21]) (by kernel_rfl) (by simp) ?_
        refine AllReadyH.cons (o := ⟨some 20, _, _, _, _, _⟩) rfl (fun K hK => ?_) (AllReadyH.cons (o := ⟨some 3, _, _, _, _, _⟩) rfl (fun K hK => ?_) AllReadyH.nil)
        · skip
          go_simp
          refine (CB.out _ (HH2.out.down B4)).mono ?_
          rintro e w5 ⟨⟨b, rfl⟩, ba⟩
          have B5 := B4.trans (ba.mono B4.size)
          have P5 := Has.down' P4 ba
          have Q5 := Has.down' Q4 ba
          clear B4 P4 Q4 ba
          go_wp2_with fail
          refine hK.out _ _ (HSS.out _ (HH2.out.down B5)) (fun hHeld => ?_)
          clear hK K
          try simp only [Act.put, List.setIfInBounds_toArray, List.set_cons_zero, List.set_cons_succ]
          refine wpAnyH_ready (rs := [19, 21]) (by kernel_rfl) (by simp) ?_
          refine AllReadyH.cons (o := ⟨some 25, _, _, _, _, _⟩) rfl (fun K hK => ?_) (AllReadyH.cons (o := ⟨some 3, _, _, _, _, _⟩) rfl (fun K hK => ?_) AllReadyH.nil)
          · skip
            go_simp
            refine (CS.out _ (HH2.out.down B5)).mono ?_
            rintro e w6 ⟨⟨s, rfl⟩, ba⟩
            have B6 := B5.trans (ba.mono B5.size)
            have P6 := Has.down' P5 ba
            have Q6 := Has.down' Q5 ba
            clear B5 P5 Q5 ba
            go_wp2_with fail
            refine hK.out _ _ (HSS.out _ (HH2.out.down B6)) (fun hHeld => ?_)
            clear hK K
            try simp only [Act.put, List.setIfInBounds_toArray, List.set_cons_zero, List.set_cons_succ]
            refine wpAnyH_take (i := 20) (oi := ⟨some 26, _, _, _, _, _⟩) (v := ?_) rfl (by kernel_rfl) (by kernel_rfl) (by kernel_rfl) (fun _ _ _ h => h) (Or.inl ⟨by kernel_rfl, ?_⟩) (by assumption) ?_
            rotate_left
            · intro w hSw; (try dsimp only at hSw); obtain ⟨q1, q2⟩ := hSw; go_simp; try with_reducible rfl
            rotate_left
            try simp only [Act.put, List.setIfInBounds_toArray, List.set_cons_zero, List.set_cons_succ]
            refine wpAnyH_ready (rs := [21]) (by kernel_rfl) (by simp) ?_
            refine AllReadyH.cons (o := ⟨some 3, _, _, _, _, _⟩) rfl (fun K hK => ?_) AllReadyH.nil
            · skip
              go_simp
              have ba := (Below.refl w6.heap.size w6).alloc (Nat.le_refl _) (.cells #[.slice none 0 0, .slice none 0 0, .int .i64 0, .int .i64 0, .slice none 0 0, .int .i64 0, .int .i64 0] 43)
              have X7 := Blk.new w6 43 [.slice none 0 0, .slice none 0 0, .int .i64 0, .int .i64 0, .slice none 0 0, .int .i64 0, .int .i64 0]
              have B7 := B6.trans (ba.mono B6.size)
              have P7 := Has.down' P6 ba
              have Q7 := Has.down' Q6 ba
              obtain ⟨R, hR⟩ : ∃ R, w6.heap.size = R := ⟨_, rfl⟩
              have hRl : w2.heap.size ≤ R := by rw [← hR]; exact B6.size
              rw [hR] at X7 ⊢
              clear B6 P6 Q6 ba hR
              generalize w6.alloc (.cells #[.slice none 0 0, .slice none 0 0, .int .i64 0, .int .i64 0, .slice none 0 0, .int .i64 0, .int .i64 0] 43) = w7 at *
              refine hK.out _ _ (HSS.out _ (HH2.out.down B7)) (fun hHeld => ?_)
              clear hK K
              try simp only [Act.put, List.setIfInBounds_toArray, List.set_cons_zero, List.set_cons_succ]
              have x0 := X7.cellAt (i := 0) rfl
              have x1 := X7.cellAt (i := 1) rfl
              have x2 := X7.cellAt (i := 2) rfl
              have x3 := X7.cellAt (i := 3) rfl
              have x4 := X7.cellAt (i := 4) rfl
              have x5 := X7.cellAt (i := 5) rfl
              have x6 := X7.cellAt (i := 6) rfl
              have fR := X7.frozen
              refine wpAnyH_ready (rs := [22]) (by kernel_rfl) (by simp) ?_
              refine AllReadyH.cons (o := ⟨none, _, _, _, _, _⟩) rfl (fun K hK => ?_) AllReadyH.nil
              go_simp
              have XE := (((((((X7.set_ 0 (.slice A1 tr.length c1)).set_ 1 (.slice A2 xs.length c2)).set_ 2 (.int .i64 0)).set_ 3 (.int .i64 0)).set_ 4 (.slice none 0 0)).set_ 5 (.int .i64 b)).set_ 6 (.int .i64 s))
              have KE : Keeps (· = R) w7 (((((((w7.setCell ⟨R, 0, none⟩ (.slice A1 tr.length c1)).setCell ⟨R, 1, none⟩ (.slice A2 xs.length c2)).setCell ⟨R, 2, none⟩ (.int .i64 0)).setCell ⟨R, 3, none⟩ (.int .i64 0)).setCell ⟨R, 4, none⟩ (.slice none 0 0)).setCell ⟨R, 5, none⟩ (.int .i64 b)).setCell ⟨R, 6, none⟩ (.int .i64 s)) := ((((((((keep1 R w7).setCell ⟨R, 0, none⟩ (.inl rfl) _).setCell ⟨R, 1, none⟩ (.inl rfl) _).setCell ⟨R, 2, none⟩ (.inl rfl) _).setCell ⟨R, 3, none⟩ (.inl rfl) _).setCell ⟨R, 4, none⟩ (.inl rfl) _).setCell ⟨R, 5, none⟩ (.inl rfl) _).setCell ⟨R, 6, none⟩ (.inl rfl) _)
              have PE := P7.kept KE (fun g cur hg _ => own_ne X7 (by decide) g cur hg)
              have QE := Q7.kept KE (fun g cur hg _ => own_ne X7 (by decide) g cur hg)
              have BE := below_keeps B7 KE B7.size (fun i hi => by rw [hi]; exact hRl)
              clear X7 P7 Q7 B7 KE fR x0 x1 x2 x3 x4 x5 x6
              generalize (((((((w7.setCell ⟨R, 0, none⟩ (.slice A1 tr.length c1)).setCell ⟨R, 1, none⟩ (.slice A2 xs.length c2)).setCell ⟨R, 2, none⟩ (.int .i64 0)).setCell ⟨R, 3, none⟩ (.int .i64 0)).setCell ⟨R, 4, none⟩ (.slice none 0 0)).setCell ⟨R, 5, none⟩ (.int .i64 b)).setCell ⟨R, 6, none⟩ (.int .i64 s)) = wE at *
              refine hK.out _ _ (HSS.out _ (HH2.out.down BE)) (fun hHeld => ?_)
              clear hK K
              try simp only [Act.put, List.setIfInBounds_toArray, List.set_cons_zero, List.set_cons_succ]
              refine wpAnyH_done (by kernel_rfl) ?_ _
              go_wp2_with fail
              go_meet
              case rel =>
                rw [HXL.out] at QE XE
                have hds := HD.out.size
                exact ⟨R, _, _, b, s, rfl, PE, QE, XE, by omega, HD.out.trans (BE.mono hds)⟩
          · skip
            go_simp
            have ba := (Below.refl w5.heap.size w5).alloc (Nat.le_refl _) (.cells #[.slice none 0 0, .slice none 0 0, .int .i64 0, .int .i64 0, .slice none 0 0, .int .i64 0, .int .i64 0] 43)
            have X6 := Blk.new w5 43 [.slice none 0 0, .slice none 0 0, .int .i64 0, .int .i64 0, .slice none 0 0, .int .i64 0, .int .i64 0]
            have B6 := B5.trans (ba.mono B5.size)
            have P6 := Has.down' P5 ba
            have Q6 := Has.down' Q5 ba
            obtain ⟨R, hR⟩ : ∃ R, w5.heap.size = R := ⟨_, rfl⟩
            have hRl : w2.heap.size ≤ R := by rw [← hR]; exact B5.size
            rw [hR] at X6 ⊢
            clear B5 P5 Q5 ba hR
            generalize w5.alloc (.cells #[.slice none 0 0, .slice none 0 0, .int .i64 0, .int .i64 0, .slice none 0 0, .int .i64 0, .int .i64 0] 43) = w6 at *
            refine hK.out _ _ (HSS.out _ (HH2.out.down B6)) (fun hHeld => ?_)
            clear hK K
            try simp only [Act.put, List.setIfInBounds_toArray, List.set_cons_zero, List.set_cons_succ]
            refine wpAnyH_ready (rs := [19]) (by kernel_rfl) (by simp) ?_
            refine AllReadyH.cons (o := ⟨some 25, _, _, _, _, _⟩) rfl (fun K hK => ?_) AllReadyH.nil
            · skip
              go_simp
              refine (CS.out _ (HH2.out.down B6)).mono ?_
              rintro e w7 ⟨⟨s, rfl⟩, ba⟩
              have B7 := B6.trans (ba.mono B6.size)
              have P7 := Has.down' P6 ba
              have Q7 := Has.down' Q6 ba
              have X7 := blk_below X6 ba
              clear B6 P6 Q6 X6 ba
              go_wp2_with fail
              refine hK.out _ _ (HSS.out _ (HH2.out.down B7)) (fun hHeld => ?_)
              clear hK K
              try simp only [Act.put, List.setIfInBounds_toArray, List.set_cons_zero, List.set_cons_succ]
              refine wpAnyH_take (i := 20) (oi := ⟨some 26, _, _, _, _, _⟩) (v := ?_) rfl (by kernel_rfl) (by kernel_rfl) (by kernel_rfl) (fun _ _ _ h => h) (Or.inl ⟨by kernel_rfl, ?_⟩) (by assumption) ?_
              rotate_left
              · intro w hSw; (try dsimp only at hSw); obtain ⟨q1, q2⟩ := hSw; go_simp; try with_reducible rfl
              rotate_left
              try simp only [Act.put, List.setIfInBounds_toArray, List.set_cons_zero, List.set_cons_succ]
              have x0 := X7.cellAt (i := 0) rfl
              have x1 := X7.cellAt (i := 1) rfl
              have x2 := X7.cellAt (i := 2) rfl
              have x3 := X7.cellAt (i := 3) rfl
              have x4 := X7.cellAt (i := 4) rfl
              have x5 := X7.cellAt (i := 5) rfl
              have x6 := X7.cellAt (i := 6) rfl
              have fR := X7.frozen
              refine wpAnyH_ready (rs := [22]) (by kernel_rfl) (by simp) ?_
              refine AllReadyH.cons (o := ⟨none, _, _, _, _, _⟩) rfl (fun K hK => ?_) AllReadyH.nil
              go_simp
              have XE := (((((((X7.set_ 0 (.slice A1 tr.length c1)).set_ 1 (.slice A2 xs.length c2)).set_ 2 (.int .i64 0)).set_ 3 (.int .i64 0)).set_ 4 (.slice none 0 0)).set_ 5 (.int .i64 b)).set_ 6 (.int .i64 s))
              have KE : Keeps (· = R) w7 (((((((w7.setCell ⟨R, 0, none⟩ (.slice A1 tr.length c1)).setCell ⟨R, 1, none⟩ (.slice A2 xs.length c2)).setCell ⟨R, 2, none⟩ (.int .i64 0)).setCell ⟨R, 3, none⟩ (.int .i64 0)).setCell ⟨R, 4, none⟩ (.slice none 0 0)).setCell ⟨R, 5, none⟩ (.int .i64 b)).setCell ⟨R, 6, none⟩ (.int .i64 s)) := ((((((((keep1 R w7).setCell ⟨R, 0, none⟩ (.inl rfl) _).setCell ⟨R, 1, none⟩ (.inl rfl) _).setCell ⟨R, 2, none⟩ (.inl rfl) _).setCell ⟨R, 3, none⟩ (.inl rfl) _).setCell ⟨R, 4, none⟩ (.inl rfl) _).setCell ⟨R, 5, none⟩ (.inl rfl) _).setCell ⟨R, 6, none⟩ (.inl rfl) _)
              have PE := P7.kept KE (fun g cur hg _ => own_ne X7 (by decide) g cur hg)
              have QE := Q7.kept KE (fun g cur hg _ => own_ne X7 (by decide) g cur hg)
              have BE := below_keeps B7 KE B7.size (fun i hi => by rw [hi]; exact hRl)
              clear X7 P7 Q7 B7 KE fR x0 x1 x2 x3 x4 x5 x6
              generalize (((((((w7.setCell ⟨R, 0, none⟩ (.slice A1 tr.length c1)).setCell ⟨R, 1, none⟩ (.slice A2 xs.length c2)).setCell ⟨R, 2, none⟩ (.int .i64 0)).setCell ⟨R, 3, none⟩ (.int .i64 0)).setCell ⟨R, 4, none⟩ (.slice none 0 0)).setCell ⟨R, 5, none⟩ (.int .i64 b)).setCell ⟨R, 6, none⟩ (.int .i64 s)) = wE at *
              refine hK.out _ _ (HSS.out _ (HH2.out.down BE)) (fun hHeld => ?_)
              clear hK K
              try simp only [Act.put, List.setIfInBounds_toArray, List.set_cons_zero, List.set_cons_succ]
              refine wpAnyH_done (by kernel_rfl) ?_ _
              go_wp2_with fail
              go_meet
              case rel =>
                rw [HXL.out] at QE XE
                have hds := HD.out.size
                exact ⟨R, _, _, b, s, rfl, PE, QE, XE, by omega, HD.out.trans (BE.mono hds)⟩
        · skip
          go_simp
          have ba := (Below.refl w4.heap.size w4).alloc (Nat.le_refl _) (.cells #[.slice none 0 0, .slice none 0 0, .int .i64 0, .int .i64 0, .slice none 0 0, .int .i64 0, .int .i64 0] 43)
          have X5 := Blk.new w4 43 [.slice none 0 0, .slice none 0 0, .int .i64 0, .int .i64 0, .slice none 0 0, .int .i64 0, .int .i64 0]
          have B5 := B4.trans (ba.mono B4.size)
          have P5 := Has.down' P4 ba
          have Q5 := Has.down' Q4 ba
          obtain ⟨R, hR⟩ : ∃ R, w4.heap.size = R := ⟨_, rfl⟩
          have hRl : w2.heap.size ≤ R := by rw [← hR]; exact B4.size
          rw [hR] at X5 ⊢
          clear B4 P4 Q4 ba hR
          generalize w4.alloc (.cells #[.slice none 0 0, .slice none 0 0, .int .i64 0, .int .i64 0, .slice none 0 0, .int .i64 0, .int .i64 0] 43) = w5 at *
          refine hK.out _ _ (HSS.out _ (HH2.out.down B5)) (fun hHeld => ?_)
          clear hK K
          try simp only [Act.put, List.setIfInBounds_toArray, List.set_cons_zero, List.set_cons_succ]
          refine wpAnyH_ready (rs := [14]) (by kernel_rfl) (by simp) ?_
          refine AllReadyH.cons (o := ⟨some 20, _, _, _, _, _⟩) rfl (fun K hK => ?_) AllReadyH.nil
          · skip
            go_simp
            refine (CB.out _ (HH2.out.down B5)).mono ?_
            rintro e w6 ⟨⟨b, rfl⟩, ba⟩
            have B6 := B5.trans (ba.mono B5.size)
            have P6 := Has.down' P5 ba
            have Q6 := Has.down' Q5 ba
            have X6 := blk_below X5 ba
            clear B5 P5 Q5 X5 ba
            go_wp2_with fail
            refine hK.out _ _ (HSS.out _ (HH2.out.down B6)) (fun hHeld => ?_)
            clear hK K
            try simp only [Act.put, List.setIfInBounds_toArray, List.set_cons_zero, List.set_cons_succ]
            refine wpAnyH_ready (rs := [19]) (by kernel_rfl) (by simp) ?_
            refine AllReadyH.cons (o := ⟨some 25, _, _, _, _, _⟩) rfl (fun K hK => ?_) AllReadyH.nil
            · skip
              go_simp
              refine (CS.out _ (HH2.out.down B6)).mono ?_
              rintro e w7 ⟨⟨s, rfl⟩, ba⟩
              have B7 := B6.trans (ba.mono B6.size)
              have P7 := Has.down' P6 ba
              have Q7 := Has.down' Q6 ba
              have X7 := blk_below X6 ba
              clear B6 P6 Q6 X6 ba
              go_wp2_with fail
              refine hK.out _ _ (HSS.out _ (HH2.out.down B7)) (fun hHeld => ?_)
              clear hK K
              try simp only [Act.put, List.setIfInBounds_toArray, List.set_cons_zero, List.set_cons_succ]
              refine wpAnyH_take (i := 20) (oi := ⟨some 26, _, _, _, _, _⟩) (v := ?_) rfl (by kernel_rfl) (by kernel_rfl) (by kernel_rfl) (fun _ _ _ h => h) (Or.inl ⟨by kernel_rfl, ?_⟩) (by assumption) ?_
              rotate_left
              · intro w hSw; (try dsimp only at hSw); obtain ⟨q1, q2⟩ := hSw; go_simp; try with_reducible rfl
              rotate_left
              try simp only [Act.put, List.setIfInBounds_toArray, List.set_cons_zero, List.set_cons_succ]
              have x0 := X7.cellAt (i := 0) rfl
              have x1 := X7.cellAt (i := 1) rfl
              have x2 := X7.cellAt (i := 2) rfl
              have x3 := X7.cellAt (i := 3) rfl
              have x4 := X7.cellAt (i := 4) rfl
              have x5 := X7.cellAt (i := 5) rfl
              have x6 := X7.cellAt (i := 6) rfl
              have fR := X7.frozen
              refine wpAnyH_ready (rs := [22]) (by kernel_rfl) (by simp) ?_
              refine AllReadyH.cons (o := ⟨none, _, _, _, _, _⟩) rfl (fun K hK => ?_) AllReadyH.nil
              go_simp
              have XE := (((((((X7.set_ 0 (.slice A1 tr.length c1)).set_ 1 (.slice A2 xs.length c2)).set_ 2 (.int .i64 0)).set_ 3 (.int .i64 0)).set_ 4 (.slice none 0 0)).set_ 5 (.int .i64 b)).set_ 6 (.int .i64 s))
              have KE : Keeps (· = R) w7 (((((((w7.setCell ⟨R, 0, none⟩ (.slice A1 tr.length c1)).setCell ⟨R, 1, none⟩ (.slice A2 xs.length c2)).setCell ⟨R, 2, none⟩ (.int .i64 0)).setCell ⟨R, 3, none⟩ (.int .i64 0)).setCell ⟨R, 4, none⟩ (.slice none 0 0)).setCell ⟨R, 5, none⟩ (.int .i64 b)).setCell ⟨R, 6, none⟩ (.int .i64 s)) := ((((((((keep1 R w7).setCell ⟨R, 0, none⟩ (.inl rfl) _).setCell ⟨R, 1, none⟩ (.inl rfl) _).setCell ⟨R, 2, none⟩ (.inl rfl) _).setCell ⟨R, 3, none⟩ (.inl rfl) _).setCell ⟨R, 4, none⟩ (.inl rfl) _).setCell ⟨R, 5, none⟩ (.inl rfl) _).setCell ⟨R, 6, none⟩ (.inl rfl) _)
              have PE := P7.kept KE (fun g cur hg _ => own_ne X7 (by decide) g cur hg)
              have QE := Q7.kept KE (fun g cur hg _ => own_ne X7 (by decide) g cur hg)
              have BE := below_keeps B7 KE B7.size (fun i hi => by rw [hi]; exact hRl)
              clear X7 P7 Q7 B7 KE fR x0 x1 x2 x3 x4 x5 x6
              generalize (((((((w7.setCell ⟨R, 0, none⟩ (.slice A1 tr.length c1)).setCell ⟨R, 1, none⟩ (.slice A2 xs.length c2)).setCell ⟨R, 2, none⟩ (.int .i64 0)).setCell ⟨R, 3, none⟩ (.int .i64 0)).setCell ⟨R, 4, none⟩ (.slice none 0 0)).setCell ⟨R, 5, none⟩ (.int .i64 b)).setCell ⟨R, 6, none⟩ (.int .i64 s)) = wE at *
              refine hK.out _ _ (HSS.out _ (HH2.out.down BE)) (fun hHeld => ?_)
              clear hK K
              try simp only [Act.put, List.setIfInBounds_toArray, List.set_cons_zero, List.set_cons_succ]
              refine wpAnyH_done (by kernel_rfl) ?_ _
              go_wp2_with fail
              go_meet
              case rel =>
                rw [HXL.out] at QE XE
                have hds := HD.out.size
                exact ⟨R, _, _, b, s, rfl, PE, QE, XE, by omega, HD.out.trans (BE.mono hds)⟩
      · skip
        go_simp
        have ba := (Below.refl w3.heap.size w3).alloc (Nat.le_refl _) (.cells #[.slice none 0 0, .slice none 0 0, .int .i64 0, .int .i64 0, .slice none 0 0, .int .i64 0, .int .i64 0] 43)
        have X4 := Blk.new w3 43 [.slice none 0 0, .slice none 0 0, .int .i64 0, .int .i64 0, .slice none 0 0, .int .i64 0, .int .i64 0]
        have B4 := B3.trans (ba.mono B3.size)
        have P4 := Has.down' P3 ba
        obtain ⟨R, hR⟩ : ∃ R, w3.heap.size = R := ⟨_, rfl⟩
        have hRl : w2.heap.size ≤ R := by rw [← hR]; exact B3.size
        rw [hR] at X4 ⊢
        clear B3 P3 ba hR
        generalize w3.alloc (.cells #[.slice none 0 0, .slice none 0 0, .int .i64 0, .int .i64 0, .slice none 0 0, .int .i64 0, .int .i64 0] 43) = w4 at *
        refine hK.out _ _ (HSS.out _ (HH2.out.down B4)) (fun hHeld => ?_)
        clear hK K
        try simp only [Act.put, List.setIfInBounds_toArray, List.set_cons_zero, List.set_cons_succ]
        refine wpAnyH_ready (rs := [9]) (by kernel_rfl) (by simp) ?_
        refine AllReadyH.cons (o := ⟨some 15, _, _, _, _, _⟩) rfl (fun K hK => ?_) AllReadyH.nil
        · skip
          go_simp
          refine (CA.out _ (HH2.out.down B4)).mono ?_
          rintro e w5 ⟨A2, c2, rfl, Q5, ba⟩
          have B5 := B4.trans (ba.mono B4.size)
          have P5 := Has.down' P4 ba
          have X5 := blk_below X4 ba
          clear B4 P4 X4 ba
          go_wp2_with fail
          refine hK.out _ _ (HSS.out _ (HH2.out.down B5)) (fun hHeld => ?_)
          clear hK K
          try simp only [Act.put, List.setIfInBounds_toArray, List.set_cons_zero, List.set_cons_succ]
          refine wpAnyH_ready (rs := [14]) (by kernel_rfl) (by simp) ?_
          refine AllReadyH.cons (o := ⟨some 20, _, _, _, _, _⟩) rfl (fun K hK => ?_) AllReadyH.nil
          · skip
            go_simp
            refine (CB.out _ (HH2.out.down B5)).mono ?_
            rintro e w6 ⟨⟨b, rfl⟩, ba⟩
            have B6 := B5.trans (ba.mono B5.size)
            have P6 := Has.down' P5 ba
            have Q6 := Has.down' Q5 ba
            have X6 := blk_below X5 ba
            clear B5 P5 Q5 X5 ba
            go_wp2_with fail
            refine hK.out _ _ (HSS.out _ (HH2.out.down B6)) (fun hHeld => ?_)
            clear hK K
            try simp only [Act.put, List.setIfInBounds_toArray, List.set_cons_zero, List.set_cons_succ]
            refine wpAnyH_ready (rs := [19]) (by kernel_rfl) (by simp) ?_
            refine AllReadyH.cons (o := ⟨some 25, _, _, _, _, _⟩) rfl (fun K hK => ?_) AllReadyH.nil
            · skip
              go_simp
              refine (CS.out _ (HH2.out.down B6)).mono ?_
              rintro e w7 ⟨⟨s, rfl⟩, ba⟩
              have B7 := B6.trans (ba.mono B6.size)
              have P7 := Has.down' P6 ba
              have Q7 := Has.down' Q6 ba
              have X7 := blk_below X6 ba
              clear B6 P6 Q6 X6 ba
              go_wp2_with fail
              refine hK.out _ _ (HSS.out _ (HH2.out.down B7)) (fun hHeld => ?_)
              clear hK K
              try simp only [Act.put, List.setIfInBounds_toArray, List.set_cons_zero, List.set_cons_succ]
              refine wpAnyH_take (i := 20) (oi := ⟨some 26, _, _, _, _, _⟩) (v := ?_) rfl (by kernel_rfl) (by kernel_rfl) (by kernel_rfl) (fun _ _ _ h => h) (Or.inl ⟨by kernel_rfl, ?_⟩) (by assumption) ?_
              rotate_left
              · intro w hSw; (try dsimp only at hSw); obtain ⟨q1, q2⟩ := hSw; go_simp; try with_reducible rfl
              rotate_left
              try simp only [Act.put, List.setIfInBounds_toArray, List.set_cons_zero, List.set_cons_succ]
              have x0 := X7.cellAt (i := 0) rfl
              have x1 := X7.cellAt (i := 1) rfl
              have x2 := X7.cellAt (i := 2) rfl
              have x3 := X7.cellAt (i := 3) rfl
              have x4 := X7.cellAt (i := 4) rfl
              have x5 := X7.cellAt (i := 5) rfl
              have x6 := X7.cellAt (i := 6) rfl
              have fR := X7.frozen
              refine wpAnyH_ready (rs := [22]) (by kernel_rfl) (by simp) ?_
              refine AllReadyH.cons (o := ⟨none, _, _, _, _, _⟩) rfl (fun K hK => ?_) AllReadyH.nil
              go_simp
              have XE := (((((((X7.set_ 0 (.slice A1 tr.length c1)).set_ 1 (.slice A2 xs.length c2)).set_ 2 (.int .i64 0)).set_ 3 (.int .i64 0)).set_ 4 (.slice none 0 0)).set_ 5 (.int .i64 b)).set_ 6 (.int .i64 s))
              have KE : Keeps (· = R) w7 (((((((w7.setCell ⟨R, 0, none⟩ (.slice A1 tr.length c1)).setCell ⟨R, 1, none⟩ (.slice A2 xs.length c2)).setCell ⟨R, 2, none⟩ (.int .i64 0)).setCell ⟨R, 3, none⟩ (.int .i64 0)).setCell ⟨R, 4, none⟩ (.slice none 0 0)).setCell ⟨R, 5, none⟩ (.int .i64 b)).setCell ⟨R, 6, none⟩ (.int .i64 s)) := ((((((((keep1 R w7).setCell ⟨R, 0, none⟩ (.inl rfl) _).setCell ⟨R, 1, none⟩ (.inl rfl) _).setCell ⟨R, 2, none⟩ (.inl rfl) _).setCell ⟨R, 3, none⟩ (.inl rfl) _).setCell ⟨R, 4, none⟩ (.inl rfl) _).setCell ⟨R, 5, none⟩ (.inl rfl) _).setCell ⟨R, 6, none⟩ (.inl rfl) _)
              have PE := P7.kept KE (fun g cur hg _ => own_ne X7 (by decide) g cur hg)
              have QE := Q7.kept KE (fun g cur hg _ => own_ne X7 (by decide) g cur hg)
              have BE := below_keeps B7 KE B7.size (fun i hi => by rw [hi]; exact hRl)
              clear X7 P7 Q7 B7 KE fR x0 x1 x2 x3 x4 x5 x6
              generalize (((((((w7.setCell ⟨R, 0, none⟩ (.slice A1 tr.length c1)).setCell ⟨R, 1, none⟩ (.slice A2 xs.length c2)).setCell ⟨R, 2, none⟩ (.int .i64 0)).setCell ⟨R, 3, none⟩ (.int .i64 0)).setCell ⟨R, 4, none⟩ (.slice none 0 0)).setCell ⟨R, 5, none⟩ (.int .i64 b)).setCell ⟨R, 6, none⟩ (.int .i64 s)) = wE at *
              refine hK.out _ _ (HSS.out _ (HH2.out.down BE)) (fun hHeld => ?_)
              clear hK K
              try simp only [Act.put, List.setIfInBounds_toArray, List.set_cons_zero, List.set_cons_succ]
              refine wpAnyH_done (by kernel_rfl) ?_ _
              go_wp2_with fail
              go_meet
              case rel =>
                rw [HXL.out] at QE XE
                have hds := HD.out.size
                exact ⟨R, _, _, b, s, rfl, PE, QE, XE, by omega, HD.out.trans (BE.mono hds)⟩
    · skip
      go_simp
      have ba := (Below.refl w2.heap.size w2).alloc (Nat.le_refl _) (.cells #[.slice none 0 0, .slice none 0 0, .int .i64 0, .int .i64 0, .slice none 0 0, .int .i64 0, .int .i64 0] 43)
      have X3 := Blk.new w2 43 [.slice none 0 0, .slice none 0 0, .int .i64 0, .int .i64 0, .slice none 0 0, .int .i64 0, .int .i64 0]
      have B3 := B2.trans (ba.mono B2.size)
      obtain ⟨R, hR⟩ : ∃ R, w2.heap.size = R := ⟨_, rfl⟩
      have hRl : w2.heap.size ≤ R := by rw [← hR]; exact B2.size
      rw [hR] at X3 ⊢
      clear B2 ba hR
      generalize w2.alloc (.cells #[.slice none 0 0, .slice none 0 0, .int .i64 0, .int .i64 0, .slice none 0 0, .int .i64 0, .int .i64 0] 43) = w3 at *
      refine hK.out _ _ (HSS.out _ (HH2.out.down B3)) (fun hHeld => ?_)
      clear hK K
      try simp only [Act.put, List.setIfInBounds_toArray, List.set_cons_zero, List.set_cons_succ]
      refine wpAnyH_ready (rs := [4]) (by kernel_rfl) (by simp) ?_
      refine AllReadyH.cons (o := ⟨some 10, _, _, _, _, _⟩) rfl (fun K hK => ?_) AllReadyH.nil
      · skip
        go_simp
        refine (CC.out _ (HH2.out.down B3)).mono ?_
        rintro e w4 ⟨A1, c1, rfl, P4, ba⟩
        have B4 := B3.trans (ba.mono B3.size)
        have X4 := blk_below X3 ba
        clear B3 X3 ba
        go_wp2_with fail
        refine hK.out _ _ (HSS.out _ (HH2.out.down B4)) (fun hHeld => ?_)
        clear hK K
        try simp only [Act.put, List.setIfInBounds_toArray, List.set_cons_zero, List.set_cons_succ]
        refine wpAnyH_ready (rs := [9]) (by kernel_rfl) (by simp) ?_
        refine AllReadyH.cons (o := ⟨some 15, _, _, _, _, _⟩) rfl (fun K hK => ?_) AllReadyH.nil
        · skip
          go_simp
          refine (CA.out _ (HH2.out.down B4)).mono ?_
          rintro e w5 ⟨A2, c2, rfl, Q5, ba⟩
          have B5 := B4.trans (ba.mono B4.size)
          have P5 := Has.down' P4 ba
          have X5 := blk_below X4 ba
          clear B4 P4 X4 ba
          go_wp2_with fail
          refine hK.out _ _ (HSS.out _ (HH2.out.down B5)) (fun hHeld => ?_)
          clear hK K
          try simp only [Act.put, List.setIfInBounds_toArray, List.set_cons_zero, List.set_cons_succ]
          refine wpAnyH_ready (rs := [14]) (by kernel_rfl) (by simp) ?_
          refine AllReadyH.cons (o := ⟨some 20, _, _, _, _, _⟩) rfl (fun K hK => ?_) AllReadyH.nil
          · skip
            go_simp
            refine (CB.out _ (HH2.out.down B5)).mono ?_
            rintro e w6 ⟨⟨b, rfl⟩, ba⟩
            have B6 := B5.trans (ba.mono B5.size)
            have P6 := Has.down' P5 ba
            have Q6 := Has.down' Q5 ba
            have X6 := blk_below X5 ba
            clear B5 P5 Q5 X5 ba
            go_wp2_with fail
            refine hK.out _ _ (HSS.out _ (HH2.out.down B6)) (fun hHeld => ?_)
            clear hK K
            try simp only [Act.put, List.setIfInBounds_toArray, List.set_cons_zero, List.set_cons_succ]
            refine wpAnyH_ready (rs := [19]) (by kernel_rfl) (by simp) ?_
            refine AllReadyH.cons (o := ⟨some 25, _, _, _, _, _⟩) rfl (fun K hK => ?_) AllReadyH.nil
            · skip
              go_simp
              refine (CS.out _ (HH2.out.down B6)).mono ?_
              rintro e w7 ⟨⟨s, rfl⟩, ba⟩
              have B7 := B6.trans (ba.mono B6.size)
              have P7 := Has.down' P6 ba
              have Q7 := Has.down' Q6 ba
              have X7 := blk_below X6 ba
              clear B6 P6 Q6 X6 ba
              go_wp2_with fail
              refine hK.out _ _ (HSS.out _ (HH2.out.down B7)) (fun hHeld => ?_)
              clear hK K
              try simp only [Act.put, List.setIfInBounds_toArray, List.set_cons_zero, List.set_cons_succ]
              refine wpAnyH_take (i := 20) (oi := ⟨some 26, _, _, _, _, _⟩) (v := ?_) rfl (by kernel_rfl) (by kernel_rfl) (by kernel_rfl) (fun _ _ _ h => h) (Or.inl ⟨by kernel_rfl, ?_⟩) (by assumption) ?_
              rotate_left
              · intro w hSw; (try dsimp only at hSw); obtain ⟨q1, q2⟩ := hSw; go_simp; try with_reducible rfl
              rotate_left
              try simp only [Act.put, List.setIfInBounds_toArray, List.set_cons_zero, List.set_cons_succ]
              have x0 := X7.cellAt (i := 0) rfl
              have x1 := X7.cellAt (i := 1) rfl
              have x2 := X7.cellAt (i := 2) rfl
              have x3 := X7.cellAt (i := 3) rfl
              have x4 := X7.cellAt (i := 4) rfl
              have x5 := X7.cellAt (i := 5) rfl
              have x6 := X7.cellAt (i := 6) rfl
              have fR := X7.frozen
              refine wpAnyH_ready (rs := [22]) (by kernel_rfl) (by simp) ?_
              refine AllReadyH.cons (o := ⟨none, _, _, _, _, _⟩) rfl (fun K hK => ?_) AllReadyH.nil
              go_simp
              have XE := (((((((X7.set_ 0 (.slice A1 tr.length c1)).set_ 1 (.slice A2 xs.length c2)).set_ 2 (.int .i64 0)).set_ 3 (.int .i64 0)).set_ 4 (.slice none 0 0)).set_ 5 (.int .i64 b)).set_ 6 (.int .i64 s))
              have KE : Keeps (· = R) w7 (((((((w7.setCell ⟨R, 0, none⟩ (.slice A1 tr.length c1)).setCell ⟨R, 1, none⟩ (.slice A2 xs.length c2)).setCell ⟨R, 2, none⟩ (.int .i64 0)).setCell ⟨R, 3, none⟩ (.int .i64 0)).setCell ⟨R, 4, none⟩ (.slice none 0 0)).setCell ⟨R, 5, none⟩ (.int .i64 b)).setCell ⟨R, 6, none⟩ (.int .i64 s)) := ((((((((keep1 R w7).setCell ⟨R, 0, none⟩ (.inl rfl) _).setCell ⟨R, 1, none⟩ (.inl rfl) _).setCell ⟨R, 2, none⟩ (.inl rfl) _).setCell ⟨R, 3, none⟩ (.inl rfl) _).setCell ⟨R, 4, none⟩ (.inl rfl) _).setCell ⟨R, 5, none⟩ (.inl rfl) _).setCell ⟨R, 6, none⟩ (.inl rfl) _)
              have PE := P7.kept KE (fun g cur hg _ => own_ne X7 (by decide) g cur hg)
              have QE := Q7.kept KE (fun g cur hg _ => own_ne X7 (by decide) g cur hg)
              have BE := below_keeps B7 KE B7.size (fun i hi => by rw [hi]; exact hRl)
              clear X7 P7 Q7 B7 KE fR x0 x1 x2 x3 x4 x5 x6
              generalize (((((((w7.setCell ⟨R, 0, none⟩ (.slice A1 tr.length c1)).setCell ⟨R, 1, none⟩ (.slice A2 xs.length c2)).setCell ⟨R, 2, none⟩ (.int .i64 0)).setCell ⟨R, 3, none⟩ (.int .i64 0)).setCell ⟨R, 4, none⟩ (.slice none 0 0)).setCell ⟨R, 5, none⟩ (.int .i64 b)).setCell ⟨R, 6, none⟩ (.int .i64 s)) = wE at *
              refine hK.out _ _ (HSS.out _ (HH2.out.down BE)) (fun hHeld => ?_)
              clear hK K
              try simp only [Act.put, List.setIfInBounds_toArray, List.set_cons_zero, List.set_cons_succ]
              refine wpAnyH_done (by kernel_rfl) ?_ _
              go_wp2_with fail
              go_meet
              case rel =>
                rw [HXL.out] at QE XE
                have hds := HD.out.size
                exact ⟨R, _, _, b, s, rfl, PE, QE, XE, by omega, HD.out.trans (BE.mono hds)⟩
  case rest =>
    obtain ⟨R, v1, v2, b, s, rfl, P, Q, X, hR, B⟩ := hcut
    obtain ⟨A1, c1, e1⟩ := P.shape
    subst e1
    obtain ⟨A2, c2, e2⟩ := Q.shape
    subst e2
    have CS := sums_is (H1.out.down B) hn HNM.out
    obtain ⟨E, hE⟩ : ∃ E, Led.earn (rowsTo js xs js.length) = E := ⟨_, rfl⟩
    obtain ⟨L, hL⟩ : ∃ L, Led.loss (rowsTo js xs js.length) = L := ⟨_, rfl⟩
    rw [hE, hL] at CS
    have HE := Lib.hid hE
    have HL := Lib.hid hL
    have HP := Lib.hid P
    have HQ := Lib.hid Q
    have HX := Lib.hid X
    have HR := Lib.hid hR
    have HB := Lib.hid B
    clear P Q X hR B hE hL
    go_wp2_with fail
    refine CS.mono ?_
    rintro e w8 ⟨rfl, b8⟩
    have X8 := blk_below HX.out b8
    have f8 := X8.frozen
    have d2 := X8.cellAt (i := 2) rfl
    have d3 := X8.cellAt (i := 3) rfl
    have HX8 := Lib.hid X8
    have HP8 := Lib.hid (Has.down' HP.out b8)
    have HQ8 := Lib.hid (Has.down' HQ.out b8)
    have HB8 := Lib.hid (HB.out.trans (b8.mono HB.out.size))
    have hOl := HOL.out
    have hRk : R ≠ k := Blk.ne_ HX8.out (H1.out.down HB8.out).K (by decide)
    have KE : Keeps (· = R) w8 ((w8.setCell ⟨R, 2, none⟩ (.int .i64 E)).setCell ⟨R, 3, none⟩ (.int .i64 L)) := ((keep1 R w8).setCell _ (.inl rfl) _).setCell _ (.inl rfl) _
    have k1 := (H1.out.down HB8.out).K.cellAt (i := 1) rfl
    have k1' : ((w8.setCell ⟨R, 2, none⟩ (.int .i64 E)).setCell ⟨R, 3, none⟩ (.int .i64 L)).cell? ⟨k, 1, none⟩ = some (.slice none 0 0) := by
      rw [World.cell?_of_block (a := ⟨k, 1, none⟩) (KE.block k (World.block_lt_of_cell? _ _ k1) (fun e => hRk e.symm))]; exact k1
    have HKE := Lib.hid KE
    clear X8 b8 CS HX HP HQ HB k1 KE hRk
    go_upto_region 3 with fail
    have X9 := (HX8.out.set_ 2 (.int .i64 E)).set_ 3 (.int .i64 L)
    have P9 := HP8.out.kept HKE.out (fun g cur hg _ => own_ne HX8.out (by decide) g cur hg)
    have Q9 := HQ8.out.kept HKE.out (fun g cur hg _ => own_ne HX8.out (by decide) g cur hg)
    have B9 := below_keeps HB8.out HKE.out HB8.out.size (fun i hi => by rw [hi]; exact HR.out)
    clear f8 d2 d3 HX8 HP8 HQ8 HB8 HKE
    generalize (w8.setCell ⟨R, 2, none⟩ (.int .i64 E)).setCell ⟨R, 3, none⟩ (.int .i64 L) = w9 at *
    have HX9 := Lib.hid X9
    have HP9 := Lib.hid P9
    have HQ9 := Lib.hid Q9
    have HB9 := Lib.hid B9
    clear X9 P9 Q9 B9
    go_wp2_with fail
    go_loopw [39] (fun v wx => v = .int .i64 0 ∧ wx = w9) (fun _ _ => 0)
    case atStart => exact ⟨rfl, rfl⟩
    case round =>
      obtain ⟨rfl, rfl⟩ := hrel
      have XO := blk_below HXO.out HB9.out
      have fo := XO.frozen
      have o0 := XO.cellAt (i := 0) rfl
      have o1 := XO.cellAt (i := 1) rfl
      have o2 := XO.cellAt (i := 2) rfl
      have o3 := XO.cellAt (i := 3) rfl
      have o4 := XO.cellAt (i := 4) rfl
      have o5 := XO.cellAt (i := 5) rfl
      have o6 := XO.cellAt (i := 6) rfl
      have XR : Blk wr R 43 [.slice A1 tr.length c1, .slice A2 js.length c2, .int .i64 E, .int .i64 L, .slice none 0 0, .int .i64 b, .int .i64 s] := HX9.out
      have r0 := XR.cellAt (i := 0) rfl
      have r1 := XR.cellAt (i := 1) rfl
      have r2 := XR.cellAt (i := 2) rfl
      have r3 := XR.cellAt (i := 3) rfl
      have r4 := XR.cellAt (i := 4) rfl
      have r5 := XR.cellAt (i := 5) rfl
      have r6 := XR.cellAt (i := 6) rfl
      have HXB := Lib.hid XO
      clear XO XR k1'
      go_wp2_with fail
      have XE := ((((((HXB.out.set_ 0 (.slice A1 tr.length c1)).set_ 1 (.slice A2 js.length c2)).set_ 2 (.int .i64 E)).set_ 3 (.int .i64 L)).set_ 4 (.slice none 0 0)).set_ 5 (.int .i64 b)).set_ 6 (.int .i64 s)
      have KE : Keeps (· = w.heap.size) wr (((((((wr.setCell ⟨w.heap.size, 0, none⟩ (.slice A1 tr.length c1)).setCell ⟨w.heap.size, 1, none⟩ (.slice A2 js.length c2)).setCell ⟨w.heap.size, 2, none⟩ (.int .i64 E)).setCell ⟨w.heap.size, 3, none⟩ (.int .i64 L)).setCell ⟨w.heap.size, 4, none⟩ (.slice none 0 0)).setCell ⟨w.heap.size, 5, none⟩ (.int .i64 b)).setCell ⟨w.heap.size, 6, none⟩ (.int .i64 s)) :=
        ((((((((keep1 w.heap.size wr).setCell _ (.inl rfl) _).setCell _ (.inl rfl) _).setCell _ (.inl rfl) _).setCell _ (.inl rfl) _).setCell _ (.inl rfl) _).setCell _ (.inl rfl) _).setCell _ (.inl rfl) _)
      have PE := HP9.out.kept KE (fun g cur hg _ => own_ne HXB.out (by decide) g cur hg)
      have QE := HQ9.out.kept KE (fun g cur hg _ => own_ne HXB.out (by decide) g cur hg)
      have hB := below_keeps (HBO.out.trans (HB9.out.mono HBO.out.size)) KE (Nat.le_trans HBO.out.size HB9.out.size) (fun i hi => Nat.le_of_eq hi.symm)
      clear fo o0 o1 o2 o3 o4 o5 o6 r0 r1 r2 r3 r4 r5 r6 HXB KE
      generalize ((((((wr.setCell ⟨w.heap.size, 0, none⟩ (.slice A1 tr.length c1)).setCell ⟨w.heap.size, 1, none⟩ (.slice A2 js.length c2)).setCell ⟨w.heap.size, 2, none⟩ (.int .i64 E)).setCell ⟨w.heap.size, 3, none⟩ (.int .i64 L)).setCell ⟨w.heap.size, 4, none⟩ (.slice none 0 0)).setCell ⟨w.heap.size, 5, none⟩ (.int .i64 b)).setCell ⟨w.heap.size, 6, none⟩ (.int .i64 s) = wE at *
      have XE' : Blk wE w.heap.size 43 [.slice A1 tr.length c1, .slice A2 js.length c2, .int .i64 E, .int .i64 L, .slice none 0 0, .int .i64 b, .int .i64 s] := XE
      have r0 := XE'.cellAt (i := 0) rfl
      have r1 := XE'.cellAt (i := 1) rfl
      have r2 := XE'.cellAt (i := 2) rfl
      have r3 := XE'.cellAt (i := 3) rfl
      have r4 := XE'.cellAt (i := 4) rfl
      have r5 := XE'.cellAt (i := 5) rfl
      have r6 := XE'.cellAt (i := 6) rfl
      refine bodyPost_ret (v := .agg #[.slice A1 tr.length c1, .slice A2 js.length c2, .int .i64 E, .int .i64 L, .slice none 0 0, .int .i64 b, .int .i64 s]) (by simp [results, Tryz.results18, go_sem, r0, r1, r2, r3, r4, r5, r6]) rfl ?_
      rw [HE.out, HL.out]
      first | exact ⟨_, _, b, s, rfl, PE, QE, hB⟩ | exact ⟨_, _, ⟨b, s, rfl⟩, PE, QE, hB⟩
end
end Aw
end Go.Proofs.YtbgiegecfapmlaaGreatDoor

namespace Go.Proofs.YtbgiegecfapmlaaGreatDoor
open Go.RowKit
set_option linter.unusedVariables false
set_option linter.unusedSimpArgs false
namespace Aw
open Rob (own_below own_block_lt ob_mem blk_below below_drew J own_base result fc iv Goods)
open Job (jc jv)
section
variable {w w' : World} {x k base : Nat} {js : List J} {lv : Value} {tr : List Int} {xs : List Fa} {Aj : Option Addr} {cj : Nat} {tv : Value} {bp g : Nat}
theorem own_addr {e : TypeId} {size n c : Nat} {A : Option Addr} {l : List Value} (h : w.ownsRow base e size (.slice A n c) n l) : ∀ a, A = some a → ∃ b off, a = ⟨b, off, none⟩ := by
  intro a ha
  rcases h.2 with ⟨hv, _⟩ | ⟨g, cap, cur, hv, _⟩
  · injection hv with hA
    rw [ha] at hA; cases hA
  · injection hv with hA
    rw [ha] at hA
    exact ⟨g, 0, Option.some.inj hA⟩
set_option maxRecDepth 100000 in
set_option maxHeartbeats 4000000 in
theorem start_x (T : Tabs w) (h : Blk w x 69 (xc lv (.pointer none))) (O : w.ownsRow base 36 8 lv js.length (js.flatMap jc)) (hg : Goods js) (hall : Job.all js = true) (hn : js.length ≤ 12) :
    Calls Tryz.prog 12 #[.pointer (some ⟨x, 0, none⟩)] w fun e w' => e = .returned (.int .i64 0) ∧ ∃ k Aj cj tv bp g, Blk w' x 69 (xc lv (.pointer (some ⟨k, 0, none⟩))) ∧ Kn w' k js (res js).tr (book (res js).fs) 0 Aj cj tv bp g ∧ w.heap.size ≤ k ∧ (∀ a, Aj = some a → w.heap.size ≤ a.block) ∧ Keeps (· = x) w w' := by
  obtain ⟨AL, cL, hv⟩ := own_shape O
  subst hv
  have R := Rob.Row.of_own Rob.jc_len O rfl (by unfold maxLen; omega)
  have CE := early_x h
  have CN := fun W (hW : Below w.heap.size w W) => new_k (c := cL) (T.below hW) (Row.below R hW) (own_addr O) hg hall hn
  have c0 : w.cell? ⟨x, 0, none⟩ = some PR := h.cellAt (i := 0) rfl
  have c1 : w.cell? ⟨x, 1, none⟩ = some (.slice AL js.length cL) := h.cellAt (i := 1) rfl
  have c2 : w.cell? ⟨x, 2, none⟩ = some (.slice none 0 0) := h.cellAt (i := 2) rfl
  have HCN := Lib.hid (CN w.drew (below_drew w))
  have H := Lib.hid h
  have HX := Lib.hid h.lt
  clear CN R T O hg hall h
  unfold PR at c0 HCN
  go_enter Tryz.func12, Tryz.ntmps12
  go_upto_region 4 with (go_at_call 24; refine CE.mono ?_; rintro e w1 ⟨rfl, rfl⟩)
  clear CE
  go_region_held3 (fun W => W.cell? ⟨x, 0, none⟩ = some (.iface 71 (.agg #[])) ∧ W.cell? ⟨x, 1, none⟩ = some (.slice AL js.length cL) ∧ W.cell? ⟨x, 2, none⟩ = some (.slice none 0 0)) (first | exact ⟨c0, c1, c2⟩ | exact ⟨y0, y1, y2⟩) (first | (go_at_call 17; refine HCN.out.mono ?_; rintro e w2 ⟨k, Aj, cj, tv, bp, g, rfl, hK, hk, hkA, b2⟩; have hb2 := (below_drew w1).trans (b2.mono (Nat.le_refl _)); have y0 := (hb2.cell HX.out).trans c0; have y1 := (hb2.cell HX.out).trans c1; have y2 := (hb2.cell HX.out).trans c2))
  have h2 := blk_below H.out hb2
  have fx := h2.frozen
  have c3 : w2.cell? ⟨x, 3, none⟩ = some (.pointer none) := h2.cellAt (i := 3) rfl
  have H2 := Lib.hid h2
  have HK := Lib.hid hK
  have HKL := Lib.hid hk
  have HKA := Lib.hid hkA
  have HB2 := Lib.hid hb2
  clear h2 hK hk hkA hb2 b2 y0 y1 y2 c0 c1 c2 HCN
  go_wp2_with fail
  go_ret
  have hxk : x ≠ k := Blk.ne_ H2.out HK.out.K (by decide)
  have KE := (keep1 x w2).setCell ⟨x, 3, none⟩ (.inl rfl) (.pointer (some ⟨k, 0, none⟩))
  have hkk := HKL.out
  have hxl := HX.out
  have hds := (below_drew w1).size
  have hKn : Kn (w2.setCell ⟨x, 3, none⟩ (.pointer (some ⟨k, 0, none⟩))) k js (res js).tr (book (res js).fs) 0 Aj cj tv bp g := by
    obtain ⟨a1, a2, a3, a4, a5, a6, a7⟩ := HK.out
    exact ⟨a1.kept KE (fun e => hxk e.symm), Rob.Row.kept' a2 KE (fun a ha e => by have := HKA.out a ha; omega), a3, a4.kept KE (fun g cur hg _ => own_ne H2.out (by decide) g cur hg), a5.kept KE (Blk.ne_ a5.B H2.out (by decide)) (Blk.ne_ a5.G H2.out (by decide)), a6, fun a ha => Nat.lt_of_lt_of_le (a7 a ha) KE.size⟩
  exact ⟨rfl, k, Aj, cj, tv, bp, g, H2.out.set_ 3 _, hKn, by omega, HKA.out, ((Keeps.of_below (S := (· = x)) HB2.out).setCell ⟨x, 3, none⟩ (.inl rfl) _)⟩
/-- What Run leaves. -/
structure Ran (w w' : World) (x k : Nat) (lv : Value) (js : List J) (tr : List Int) (xs : List Fa) (Aj : Option Addr) (cj : Nat) (tv : Value) (bp g t : Nat) (l : List Int) (v : Value) : Prop where
  O : w'.ownsRow w.heap.size 3 1 v l.length (l.map iv)
  X : Blk w' x 69 (xc lv (.pointer (some ⟨k, 0, none⟩)))
  K : Kn w' k js tr xs ((t + l.length : Nat) : Int) Aj cj tv bp g
  k : Keeps (· = k) w w'
set_option maxRecDepth 100000 in
set_option maxHeartbeats 4000000 in
/-- Run: the next ticks of the trace. -/
theorem run_x {t m : Nat} (h : Blk w x 69 (xc lv (.pointer (some ⟨k, 0, none⟩)))) (hK : Kn w k js tr xs (t : Int) Aj cj tv bp g) (ht : t ≤ tr.length) (hl : tr.length ≤ 1000000) (hm : m ≤ 1000) :
    Calls Tryz.prog 13 #[.pointer (some ⟨x, 0, none⟩), .int .i64 (m : Int)] w fun e w' => ∃ v, e = .returned (.tuple #[v, .int .i64 0]) ∧ Ran w w' x k lv js tr xs Aj cj tv bp g t ((tr.drop t).take m) v := by
  obtain ⟨i0, hI0, hz0, hz1, hz2⟩ := Rob.infoI
  have CS := started_x h
  have hxk : x ≠ k := Blk.ne_ h hK.K (by decide)
  have H := Lib.hid h
  have HK := Lib.hid hK
  have HXK := Lib.hid hxk
  have HKL := Lib.hid hK.lts
  have hm0 : ¬ (m : Int) < 0 := by omega
  clear h hK hxk
  go_enter Tryz.func13, Tryz.ntmps13
  go_wp2_with (go_at_call 26; refine CS.mono ?_; rintro e w1 ⟨rfl, rfl⟩)
  go_loopg [7] m (fun gg v wr => ∃ j : Nat, j + gg = m ∧ t + j ≤ tr.length ∧ wr.ownsRow w1.heap.size 3 1 v j (((tr.drop t).take j).map iv) ∧ Blk wr x 69 (xc lv (.pointer (some ⟨k, 0, none⟩))) ∧ Kn wr k js tr xs ((t + j : Nat) : Int) Aj cj tv bp g ∧ Keeps (· = k) w1 wr)
  case atStart => exact ⟨0, by omega, by omega, ⟨by simp, .inl ⟨rfl, rfl⟩⟩, H.out, HK.out, Keeps.refl _ _⟩
  case round =>
    clear H HK CS
    obtain ⟨j, hj, hjl, O, h, hK, kk⟩ := hrel
    obtain ⟨AS, cS, hv⟩ := own_shape O
    subst hv
    have hlen : ((tr.drop t).take j).length = j := by rw [List.length_take, List.length_drop]; omega
    by_cases hjm : j < m
    · obtain ⟨gg, rfl⟩ : ∃ n, gk = n + 1 := ⟨gk - 1, by omega⟩
      have hlt : (j : Int) < (m : Int) := by omega
      have c3 : wr.cell? ⟨x, 3, none⟩ = some (.pointer (some ⟨k, 0, none⟩)) := h.cellAt (i := 3) rfl
      have hgo := own_block_lt O
      by_cases htl : t + j < tr.length
      · obtain ⟨y, hy⟩ : ∃ y, tr[t + j]? = some y := ⟨_, List.getElem?_eq_getElem htl⟩
        have CT := tick_go hK htl hl hy
        have hnext : (tr.drop t).take (j + 1) = (tr.drop t).take j ++ [y] := take_next (by rw [List.getElem?_drop]; exact hy)
        have HN := Lib.hid hnext
        have H := Lib.hid h
        have HO := Lib.hid O
        have HKK := Lib.hid kk
        have HK1 := Lib.hid hK.K
        clear hnext h O kk hK hy
        go_upto_region 10 with (go_at_call 27; refine CT.mono ?_; rintro e w2 ⟨rfl, hK2, k2⟩)
        have O2 := own_kept HO.out k2 (fun g cur hg _ => own_ne HK1.out (by decide) g cur hg)
        have h2 := H.out.kept k2 HXK.out
        have kk2 := HKK.out.trans k2 (fun _ _ h => h)
        have O5 := own_below O2 ((Below.refl w2.heap.size w2).alloc (Nat.le_refl _) (.cells #[.int .i64 y] 3))
        have hsz5 : w1.heap.size ≤ (w2.alloc (.cells #[.int .i64 y] 3)).heap.size := by have := kk2.size; simp; omega
        have HH2 := Lib.hid h2
        have HKN2 := Lib.hid hK2
        have HKK2 := Lib.hid kk2
        have HGO := Lib.hid hgo
        clear O2 h2 kk2 hK2 k2 CT H HO HKK HK1 c3 hgo
        go_wp2_with (at_builtin; refine wpList_append_has rfl (.tmp 33) (.tmp 35) 23 rfl i0 _ 8 Tryz.underlying23 hI0 hz0 hz1 hz2 rfl (by decide) rfl O5 (some ⟨w2.heap.size, 0, none⟩) 1 1 [.int .i64 y] rfl (Has.box w2 3 1 1 [.int .i64 y] rfl (by unfold maxLen; omega)) (Rob.iv_one [y]) (by unfold maxLen; omega) (by omega) hsz5 ?_; intro v6 w6 own6 g6 at6; obtain ⟨A6, c6, hv6⟩ := own_shape own6; subst hv6; have OWN6 := Lib.hid own6; have KG := Lib.hid (keeps_grown ((Keeps.refl (fun b => (Value.slice AS j cS).ownBlock = some b) w2).alloc (.cells #[.int .i64 y] 3)) g6 (fun g hg => .inl hg)); clear own6 g6 at6)
        go_roundg gg
        case measure => omega
        case rel =>
          have hg2 := fun b hb => (HGO.out b (ob_mem.2 hb)).1
          obtain ⟨l1, l2, l3, l4, l5⟩ := HKL.out
          have hkz := HKK2.out.size
          have hO : ∀ b, (Value.slice AS j cS).ownBlock = some b → w1.heap.size ≤ b := fun b hb => hg2 b hb
          have hK6 := HKN2.out.kept KG.out (fun e => by have := hO _ e; omega) (fun a ha e => by have := hO _ e; have := l1 a ha; omega) (fun b hb e => by have := hO _ e; have := l2 b hb; omega) (fun e => by have := hO _ e; omega) (fun e => by have := hO _ e; omega)
          exact ⟨j + 1, by omega, by omega, by rw [HN.out, List.map_append]; exact OWN6.out, HH2.out.kept KG.out (own_type_ne O5 (HH2.out.alloc _) (by decide)), hK6, HKK2.out.trans KG.out (fun b hb hs => by have := hO b hs; omega)⟩
      · have CT := tick_end hK (by omega)
        have hjt : (tr.drop t).take m = (tr.drop t).take j := by rw [List.take_of_length_le (by rw [List.length_drop]; omega), List.take_of_length_le (by rw [List.length_drop]; omega)]
        have HJT := Lib.hid hjt
        have H := Lib.hid h
        have HO := Lib.hid O
        have HKK := Lib.hid kk
        have HK1 := Lib.hid hK
        clear hjt h O kk hK hgo
        go_wp2_with (go_at_call 27; refine CT.mono ?_; rintro e w2 ⟨rfl, d2⟩)
        refine bodyPost_ret (v := .tuple #[.slice AS j cS, .int .i64 0]) (by simp [results, Tryz.results13, go_sem]) rfl ?_
        have k2 := d2.keeps (fun _ => False)
        refine ⟨_, rfl, ⟨?_, H.out.kept k2 (fun h => h), ?_, HKK.out.trans k2 (fun _ _ h => h.elim)⟩⟩
        · rw [HJT.out, hlen]; exact own_kept HO.out k2 (fun _ _ _ _ h => h)
        · rw [HJT.out, hlen]; exact HK1.out.stay k2
    · have hlt : ¬ (j : Int) < (m : Int) := by omega
      have hjm2 : j = m := by omega
      subst hjm2
      have H := Lib.hid h
      have HO := Lib.hid O
      have HKK := Lib.hid kk
      have HK1 := Lib.hid hK
      clear h O kk hK
      go_wp2_with fail
      refine bodyPost_ret (v := .tuple #[.slice AS j cS, .int .i64 0]) (by simp [results, Tryz.results13, go_sem]) rfl ?_
      refine ⟨_, rfl, ⟨?_, H.out, ?_, HKK.out⟩⟩
      · rw [hlen]; exact HO.out
      · rw [hlen]; exact HK1.out
set_option maxRecDepth 100000 in
set_option maxHeartbeats 4000000 in
theorem report_x {A : Option Addr} {c : Nat} {now : Int} (h : Blk w x 69 (xc lv (.pointer (some ⟨k, 0, none⟩)))) (hK : Kn w k js tr xs now Aj cj (.slice A tr.length c) bp g) (hn : js.length ≤ 12) (hnm : ∀ x ∈ js, x.nm.size ≤ 1000) (htl : tr.length ≤ 1000000) :
    Calls Tryz.prog 14 #[.pointer (some ⟨x, 0, none⟩)] w fun e w' => ∃ (v1 v2 : Value) (b s : Int), e = .returned (.tuple #[.agg #[v1, v2, .int .i64 (Led.earn (rowsTo js xs js.length)), .int .i64 (Led.loss (rowsTo js xs js.length)), .slice none 0 0, .int .i64 b, .int .i64 s], .int .i64 0]) ∧
      Has w' 3 1 v1 tr.length (tr.map iv) ∧ Has w' 53 2 v2 js.length (xs.flatMap Fate.cf) ∧ Below w.heap.size w w' := by
  have bO := (Below.refl w.heap.size w).alloc (Nat.le_refl _) (.cells #[.slice none 0 0, .slice none 0 0, .int .i64 0, .int .i64 0, .slice none 0 0, .int .i64 0, .int .i64 0] 43)
  have XO := Blk.new w 43 [.slice none 0 0, .slice none 0 0, .int .i64 0, .int .i64 0, .slice none 0 0, .int .i64 0, .int .i64 0]
  have CS := started_x (blk_below h bO)
  have CR := report_is (hK.down bO) hn hnm htl
  have c3 : (w.alloc (.cells #[.slice none 0 0, .slice none 0 0, .int .i64 0, .int .i64 0, .slice none 0 0, .int .i64 0, .int .i64 0] 43)).cell? ⟨x, 3, none⟩ = some (.pointer (some ⟨k, 0, none⟩)) := (blk_below h bO).cellAt (i := 3) rfl
  have hOl := XO.lt
  have HBO := Lib.hid bO
  have HXO := Lib.hid XO
  have HOL := Lib.hid hOl
  obtain ⟨E, hE⟩ : ∃ E, Led.earn (rowsTo js xs js.length) = E := ⟨_, rfl⟩
  obtain ⟨L, hL⟩ : ∃ L, Led.loss (rowsTo js xs js.length) = L := ⟨_, rfl⟩
  rw [hE, hL] at CR
  rw [hE, hL]
  clear h hK bO XO hOl hnm hE hL
  go_enter Tryz.func14, Tryz.ntmps14
  go_upto_region 1 with fail
  generalize w.alloc (.cells #[.slice none 0 0, .slice none 0 0, .int .i64 0, .int .i64 0, .slice none 0 0, .int .i64 0, .int .i64 0] 43) = w1 at *
  go_upto_region 4 with (go_at_call 26; refine CS.mono ?_; rintro e w2 ⟨rfl, rfl⟩)
  clear CS
  go_wp2_with fail
  refine CR.mono ?_
  rintro e w3 ⟨v1, v2, b, s, rfl, P, Q, b3⟩
  obtain ⟨A1, c1, e1⟩ := P.shape
  subst e1
  obtain ⟨A2, c2, e2⟩ := Q.shape
  subst e2
  have XO := blk_below HXO.out b3
  have fo := XO.frozen
  have o0 := XO.cellAt (i := 0) rfl
  have o1 := XO.cellAt (i := 1) rfl
  have o2 := XO.cellAt (i := 2) rfl
  have o3 := XO.cellAt (i := 3) rfl
  have o4 := XO.cellAt (i := 4) rfl
  have o5 := XO.cellAt (i := 5) rfl
  have o6 := XO.cellAt (i := 6) rfl
  have HXB := Lib.hid XO
  have HP9 := Lib.hid P
  have HQ9 := Lib.hid Q
  have HB9 := Lib.hid b3
  clear XO P Q b3 CR c3
  go_wp2_with fail
  have XE := ((((((HXB.out.set_ 0 (.slice A1 tr.length c1)).set_ 1 (.slice A2 js.length c2)).set_ 2 (.int .i64 E)).set_ 3 (.int .i64 L)).set_ 4 (.slice none 0 0)).set_ 5 (.int .i64 b)).set_ 6 (.int .i64 s)
  have KE : Keeps (· = w.heap.size) w3 (((((((w3.setCell ⟨w.heap.size, 0, none⟩ (.slice A1 tr.length c1)).setCell ⟨w.heap.size, 1, none⟩ (.slice A2 js.length c2)).setCell ⟨w.heap.size, 2, none⟩ (.int .i64 E)).setCell ⟨w.heap.size, 3, none⟩ (.int .i64 L)).setCell ⟨w.heap.size, 4, none⟩ (.slice none 0 0)).setCell ⟨w.heap.size, 5, none⟩ (.int .i64 b)).setCell ⟨w.heap.size, 6, none⟩ (.int .i64 s)) :=
    ((((((((keep1 w.heap.size w3).setCell _ (.inl rfl) _).setCell _ (.inl rfl) _).setCell _ (.inl rfl) _).setCell _ (.inl rfl) _).setCell _ (.inl rfl) _).setCell _ (.inl rfl) _).setCell _ (.inl rfl) _)
  have PE := HP9.out.kept KE (fun g cur hg _ => own_ne HXB.out (by decide) g cur hg)
  have QE := HQ9.out.kept KE (fun g cur hg _ => own_ne HXB.out (by decide) g cur hg)
  have hB := below_keeps (HBO.out.trans (HB9.out.mono HBO.out.size)) KE (Nat.le_trans HBO.out.size HB9.out.size) (fun i hi => Nat.le_of_eq hi.symm)
  clear fo o0 o1 o2 o3 o4 o5 o6 HXB KE
  generalize ((((((w3.setCell ⟨w.heap.size, 0, none⟩ (.slice A1 tr.length c1)).setCell ⟨w.heap.size, 1, none⟩ (.slice A2 js.length c2)).setCell ⟨w.heap.size, 2, none⟩ (.int .i64 E)).setCell ⟨w.heap.size, 3, none⟩ (.int .i64 L)).setCell ⟨w.heap.size, 4, none⟩ (.slice none 0 0)).setCell ⟨w.heap.size, 5, none⟩ (.int .i64 b)).setCell ⟨w.heap.size, 6, none⟩ (.int .i64 s) = wE at *
  have XE' : Blk wE w.heap.size 43 [.slice A1 tr.length c1, .slice A2 js.length c2, .int .i64 E, .int .i64 L, .slice none 0 0, .int .i64 b, .int .i64 s] := XE
  have r0 := XE'.cellAt (i := 0) rfl
  have r1 := XE'.cellAt (i := 1) rfl
  have r2 := XE'.cellAt (i := 2) rfl
  have r3 := XE'.cellAt (i := 3) rfl
  have r4 := XE'.cellAt (i := 4) rfl
  have r5 := XE'.cellAt (i := 5) rfl
  have r6 := XE'.cellAt (i := 6) rfl
  refine bodyPost_ret (v := .tuple #[.agg #[.slice A1 tr.length c1, .slice A2 js.length c2, .int .i64 E, .int .i64 L, .slice none 0 0, .int .i64 b, .int .i64 s], .int .i64 0]) (by simp [results, Tryz.results14, go_sem, r0, r1, r2, r3, r4, r5, r6]) rfl ?_
  first | exact ⟨_, _, b, s, rfl, PE, QE, hB⟩ | exact ⟨_, _, ⟨b, s, rfl⟩, PE, QE, hB⟩
end
end Aw
end Go.Proofs.YtbgiegecfapmlaaGreatDoor
