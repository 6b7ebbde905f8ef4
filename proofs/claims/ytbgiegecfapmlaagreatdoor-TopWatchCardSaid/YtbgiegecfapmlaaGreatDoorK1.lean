/- package kernel: one monitor: watches, Clone; conditions: 1 ≤ k ≤ 64, m ≤ k. package kernel: one monitor: Clone, broken; conditions: at most a dozen jobs, all of the monitor's name. package kernel: one monitor: sums, Report; conditions: at most a dozen jobs, all of the monitor's name. kernel.New with one monitor, either way; windows with too few, counted; conditions: good jobs, at most a dozen, the library's tables as its text lays them. TopWatch: the walk, for a way that a kernel takes; conditions: the library's tables as its text lays them. -/
import Derived.Test.YtbgiegecfapmlaaGreatDoorF1
import Derived.Test.YtbgiegecfapmlaaGreatDoorD3
import Derived.Test.YtbgiegecfapmlaaGreatDoorShelfW
import Derived.Test.YtbgiegecfapmlaaGreatDoorD2
import Derived.Test.YtbgiegecfapmlaaGreatDoorA1
import Derived.Test.YtbgiegecfapmlaaGreatDoorA3
namespace Go.Proofs.YtbgiegecfapmlaaGreatDoor
open Go.RowKit
set_option linter.unusedVariables false
set_option linter.unusedSimpArgs false
namespace Kw
open Rob (own_below own_block_lt ob_mem blk_below below_drew J own_base fc iv Goods infoI iv_one)
open Job (jc jv)
section
variable {w w' : World}
def nmA : ByteArray := ⟨#[97]⟩
/-- A monitor's cells. -/
def wc (m k : Nat) : List Value := [.string ⟨#[97]⟩, .int .i64 (m : Int), .int .i64 (k : Int)]
theorem zb (W : World) : (zeroValue 4).run Tryz.prog W = .ok (.bool false) W := by kernel_rfl
set_option maxRecDepth 100000 in
set_option maxHeartbeats 4000000 in
theorem watches_one {g m k : Nat} (h : Blk w g 58 (wc m k)) (h1 : 1 ≤ k) (h2 : k ≤ 64) (hm : m ≤ k) :
    Calls Tryz.prog 36 #[.slice (some ⟨g, 0, none⟩) 1 1] w fun e w' => e = .returned (.int .i64 0) ∧ Below w.heap.size w w' := by
  have hmm := @run_makeMap Tryz.prog
  have H := Lib.hid h
  have HK := Lib.hid (show 1 ≤ k ∧ k ≤ 64 ∧ m ≤ k from ⟨h1, h2, hm⟩)
  clear h h1 h2 hm
  go_enter Tryz.func36, Tryz.ntmps36
  go_wp2_with fail
  go_loopw [4, 12] (fun e v wr => e = .int .i64 0 ∧ ((v = .int .i64 0 ∧ MapIs Value.string wr w.heap.size []) ∨ v = .int .i64 1) ∧ Below w.heap.size w wr) (fun _ v _ => 1 - (intOf v).toNat)
  case atStart =>
    refine ⟨rfl, .inl ⟨rfl, MapIs.made Value.string w⟩, ?_⟩
    exact ((Keeps.refl (fun _ => False) w).alloc _).below (fun _ _ h => h)
  case round =>
    obtain ⟨rfl, hv, B⟩ := hrel
    rcases hv with ⟨rfl, M⟩ | rfl
    · have hW := blk_below H.out B
      have c0 : wr.cell? ⟨g, 0, none⟩ = some (.string ⟨#[97]⟩) := hW.cellAt (i := 0) rfl
      have c1 : wr.cell? ⟨g, 1, none⟩ = some (.int .i64 (m : Int)) := hW.cellAt (i := 1) rfl
      have c2 : wr.cell? ⟨g, 2, none⟩ = some (.int .i64 (k : Int)) := hW.cellAt (i := 2) rfl
      have X := Blk.new wr 58 [.string ⟨#[97]⟩, .int .i64 (m : Int), .int .i64 (k : Int)]
      have ka := (Keeps.refl (fun _ => False) wr).alloc (.cells #[.string ⟨#[97]⟩, .int .i64 (m : Int), .int .i64 (k : Int)] 58)
      have M2 := M.kept ka (fun h => h)
      have B2 := B.trans ((ka.below (fun _ _ h => h)).mono B.size)
      have HX := Lib.hid X
      have HM2 := Lib.hid M2
      have HB2 := Lib.hid B2
      have HL := Lib.hid M.lt
      clear hW X ka M M2 B B2
      go_upto_region 6 with fail
      simp only [List.toArray] at HX
      generalize wr.alloc (.cells #[.string ⟨#[97]⟩, .int .i64 (m : Int), .int .i64 (k : Int)] 58) = w2 at *
      have x0 : w2.cell? ⟨wr.heap.size, 0, none⟩ = some (.string ⟨#[97]⟩) := HX.out.cellAt (i := 0) rfl
      have x1 : w2.cell? ⟨wr.heap.size, 1, none⟩ = some (.int .i64 (m : Int)) := HX.out.cellAt (i := 1) rfl
      have x2 : w2.cell? ⟨wr.heap.size, 2, none⟩ = some (.int .i64 (k : Int)) := HX.out.cellAt (i := 2) rfl
      have CN := Mon.new_is m k w2 HK.out.1 HK.out.2.1 HK.out.2.2
      clear c0 c1 c2
      go_upto_region 9 with (go_at_call 72; refine CN.mono ?_; rintro e w3 ⟨p, F, rfl, hI3, hF3, k3⟩)
      have M3 := HM2.out.kept k3 (fun h => h)
      have X3 := HX.out.kept k3 (fun h => h)
      have y0 : w3.cell? ⟨wr.heap.size, 0, none⟩ = some (.string ⟨#[97]⟩) := X3.cellAt (i := 0) rfl
      have HB3 := Lib.hid (HB2.out.trans ((k3.below (fun _ _ h => h)).mono HB2.out.size))
      have hlk := M3.lookup (T := 145) (key_string Tryz.underlying9) Tryz.underlying145 (zb _) ⟨#[97]⟩ false
      have hlk' : (Instr.lookup 145 (.map (some w.heap.size)) (.string ⟨#[97]⟩) false).run Tryz.prog w3 = .ok (.bool false) w3 := hlk
      clear hI3 hF3 k3 x0 x1 x2 CN hlk X3 HM2 HX
      go_wp2_with (at_mapUpdate; refine wpList_update_is M3 (key_string Tryz.underlying9) Tryz.underlying145 rfl (.tmp 30) (.tmp 32) (.const (.bool true)) rfl ⟨#[97]⟩ (.bool true) rfl rfl rfl ?_; intro w4 M4 k4; have HB4 := Lib.hid (below_keeps HB3.out k4 HB3.out.size (fun b hb => Nat.le_of_eq hb.symm)); clear k4 M4)
      go_roundw
      case rel => exact ⟨by first | rfl | simp, .inr (by simp), HB4.out⟩
      case measure => simp [intOf]
    · have HB := Lib.hid B
      clear B
      go_wp2_with fail
      go_ret
      exact ⟨rfl, HB.out⟩
end
end Kw
end Go.Proofs.YtbgiegecfapmlaaGreatDoor

namespace Go.Proofs.YtbgiegecfapmlaaGreatDoor
open Go.RowKit
set_option linter.unusedVariables false
set_option linter.unusedSimpArgs false
namespace Kw
open Rob (own_below own_block_lt ob_mem blk_below below_drew J own_base fc iv Goods nv)
open Job (jc jv)
open Dl (ord by_is ord_mem ord_len)
open Kg (KnG)
section
variable {w w' : World}
theorem infoW' : (Tryz.prog.info? 58).map (fun i => (i.zero, i.size, i.bytes)) = some (some (.agg #[.string ByteArray.empty, .int .i64 0, .int .i64 0]), 3, 32) := by kernel_rfl
theorem infoW : ∃ i, Tryz.prog.info? 58 = some i ∧ i.zero = some (.agg #[.string ByteArray.empty, .int .i64 0, .int .i64 0]) ∧ i.size = 3 ∧ i.bytes = 32 := by
  have h := infoW'
  cases hi : Tryz.prog.info? 58 with
  | none => rw [hi] at h; cases h
  | some i =>
    rw [hi] at h
    simp at h
    exact ⟨i, rfl, h.1, h.2.1, h.2.2⟩
theorem clone_one {g m k : Nat} (h : Blk w g 58 (wc m k)) :
    Calls Tryz.prog 40 #[.slice (some ⟨g, 0, none⟩) 1 1] w fun e w' => ∃ Ax nx cx, e = .returned (.slice Ax nx cx) ∧ nx = 1 ∧ Has w' 58 3 (.slice Ax nx cx) 1 (wc m k) ∧ Below w.heap.size w w' := by
  obtain ⟨i0, hi, hz0, hz1, hz2⟩ := infoW
  refine (AnyE.slices_Clone Tryz.laysCloneW i0 _ 3 32 hi hz0 hz1 hz2 rfl (by omega) Tryz.sizeOf58 g 0 1 1 (wc m k) w rfl (by unfold maxLen; omega) (by omega) (fun j u hu => by rw [Nat.zero_add]; exact h.cellAt hu) (by
    intro u hu
    simp [wc] at hu
    rcases hu with rfl | rfl | rfl <;> rfl)).mono ?_
  rintro e w' ⟨v', rfl, hown, _, hb⟩
  obtain ⟨A', c', rfl⟩ := own_shape hown
  exact ⟨A', 1, c', rfl, rfl, Has.of_own hown, hb⟩
/-- Was the job at a place met? -/
def metAt (xs : List Fa) (i : Nat) : Bool := match xs[i]? with
  | some f => f.k == 1
  | none => false
/-- Met or missed, in the order of deadlines. -/
def mets (js : List J) (xs : List Fa) : List Bool := (ord js).map (metAt xs)
theorem mets_len (js : List J) (xs : List Fa) : (mets js xs).length = js.length := by unfold mets; rw [List.length_map, ord_len]
set_option maxRecDepth 100000 in
set_option maxHeartbeats 8000000 in
theorem broken_is {kk m k : Nat} {js : List J} {tr : List Int} {xs : List Fa} {now : Int} {Aj : Option Addr} {cj : Nat} {wv tv : Value} {bp g : Nat} {nm : ByteArray} (h : KnG w kk js tr xs now Aj cj wv tv bp g) (hn : js.length ≤ 12) (hnm : ∀ x ∈ js, x.nm = nm) (h1 : 1 ≤ k) (h2 : k ≤ 64) (hm : m ≤ k) :
    Calls Tryz.prog 46 #[.pointer (some ⟨kk, 0, none⟩), .agg #[.string nm, .int .i64 (m : Int), .int .i64 (k : Int)]] w fun e w' => e = .returned (.int .i64 ((Win.brk m k (mets js xs)).length : Int)) ∧ Below w.heap.size w w' := by
  have ba := (Below.refl w.heap.size w).alloc (Nat.le_refl _) (.cells #[.string nm, .int .i64 (m : Int), .int .i64 (k : Int)] 58)
  have X := Blk.new w 58 [.string nm, .int .i64 (m : Int), .int .i64 (k : Int)]
  have hK1 := h.down ba
  have HB1 := Lib.hid ba
  have HX := Lib.hid X
  have HK1 := Lib.hid hK1
  have HXL := Lib.hid X.lt
  have HNM := Lib.hid hnm
  have HC := Lib.hid (show 1 ≤ k ∧ k ≤ 64 ∧ m ≤ k from ⟨h1, h2, hm⟩)
  have HL := Lib.hid h.l
  have HKL := Lib.hid (show kk < w.heap.size from h.K.lt)
  clear ba X hK1 h hnm h1 h2 hm
  go_enter Tryz.func46, Tryz.ntmps46
  go_upto_region 1 with fail
  simp only [List.toArray] at HX
  generalize w.alloc (.cells #[.string nm, .int .i64 (m : Int), .int .i64 (k : Int)] 58) = w1 at *
  have x1 : w1.cell? ⟨w.heap.size, 1, none⟩ = some (.int .i64 (m : Int)) := HX.out.cellAt (i := 1) rfl
  have x2 : w1.cell? ⟨w.heap.size, 2, none⟩ = some (.int .i64 (k : Int)) := HX.out.cellAt (i := 2) rfl
  have CN := Mon.new_is m k w1 HC.out.1 HC.out.2.1 HC.out.2.2
  go_upto_region 2 with (go_at_call 72; refine CN.mono ?_; rintro e w2 ⟨p, F, rfl, hI, hF, k2⟩)
  have b2 := k2.below (fun _ _ h => h)
  have hK2 := HK1.out.down b2
  have c0 : w2.cell? ⟨kk, 0, none⟩ = some (.slice Aj js.length cj) := hK2.K.cellAt (i := 0) rfl
  have CB := by_is (c := cj) hK2.R hK2.al hn
  have HI2 := Lib.hid hI
  have HF2 := Lib.hid hF
  have HB2 := Lib.hid b2
  have HFL := Lib.hid hI.lt
  clear x1 x2 CN hI hF k2 b2 hK2
  go_upto_region 3 with (go_at_call 19; refine CB.mono ?_; rintro e w3 ⟨g2, rfl, hO, hg2, hg3, b3⟩)
  have HO3 := Lib.hid hO
  have HB3 := Lib.hid (HB2.out.trans (b3.mono HB2.out.size))
  have HG2 := Lib.hid hg2
  have HI3 := Lib.hid (HI2.out.stay (Keeps.of_below b3))
  have HF3 := Lib.hid (fun b (hb : F b) => (show w1.heap.size ≤ b ∧ b ≠ g2 from ⟨HF2.out b hb, by have := HFL.out b hb; have := HG2.out; omega⟩))
  have HG3 := Lib.hid hg3
  clear c0 CB hO hg2 hg3 b3 HI2 HF2 HB2 HFL
  go_wp2_with fail
  go_loopw [25] (fun ix wr => ∃ (q : Nat) (F : Nat → Prop), q ≤ js.length ∧ ix = .int .i64 (q : Int) ∧ Mon.Is wr p F m k ((mets js xs).take q) (Win.brk m k ((mets js xs).take q)) ∧ (∀ b, F b → w1.heap.size ≤ b ∧ b ≠ g2) ∧ Has wr 3 1 (.slice (some ⟨g2, 0, none⟩) js.length js.length) js.length (nv (ord js)) ∧ g2 < wr.heap.size ∧ Below w1.heap.size w1 wr) (fun ix _ => js.length - (intOf ix).toNat)
  case atStart => exact ⟨0, F, by omega, rfl, HI3.out, HF3.out, HO3.out, HG3.out, HB3.out⟩
  case round =>
    clear HI3 HF3 HO3 HG3 HB3
    obtain ⟨q, F, hq, rfl, hI, hF, hO, hgl, B⟩ := hrel
    by_cases hlt : q < js.length
    · have hlti : (q : Int) < (js.length : Int) := by omega
      have hq0 : (0 : Int) ≤ (q : Int) := by omega
      have hq1 : (q : Int) + 1 ≤ 9223372036854775807 := by omega
      obtain ⟨i, hi⟩ : ∃ i : Nat, (ord js)[q]? = some i := ⟨_, List.getElem?_eq_getElem (by rw [ord_len]; exact hlt)⟩
      have hin := ord_mem js i (List.mem_of_getElem? hi)
      obtain ⟨g3, off3, hA3, hc⟩ := hO.at_ (by omega)
      cases hA3
      have ci : wr.cell? ⟨g2, 0 + q, none⟩ = some (.int .i64 (i : Int)) := hc q _ (by unfold nv; rw [List.getElem?_map, hi]; rfl)
      rw [Nat.zero_add] at ci
      have hKr := HK1.out.down B
      have a0 : wr.cell? ⟨kk, 0, none⟩ = some (.slice Aj js.length cj) := hKr.K.cellAt (i := 0) rfl
      have a3 : wr.cell? ⟨kk, 3, none⟩ = some (.pointer (some ⟨bp, 0, none⟩)) := hKr.K.cellAt (i := 3) rfl
      obtain ⟨b, off, x, hA, hx, hbl, d0, d1, d2, d3, d4, d5, d6, d7⟩ := Job.cells8 hKr.R hin
      have hxn : x.nm = nm := HNM.out x (List.mem_of_getElem? hx)
      rw [hxn] at d0
      have x0 : wr.cell? ⟨w.heap.size, 0, none⟩ = some (.string nm) := (blk_below HX.out B).cellAt (i := 0) rfl
      have hi0 : (0 : Int) ≤ (i : Int) := by omega
      have hi1 : (i : Int) < (js.length : Int) := by omega
      obtain ⟨f, hf⟩ : ∃ f, xs[i]? = some f := ⟨_, List.getElem?_eq_getElem (by rw [HL.out]; exact hin)⟩
      have hnext : (mets js xs).take (q + 1) = (mets js xs).take q ++ [f.k == 1] := by
        refine take_next ?_
        unfold mets metAt
        rw [List.getElem?_map, hi]
        simp [hf]
      have htl : ((mets js xs).take q).length = q := by rw [List.length_take, mets_len]; omega
      have HNXT := Lib.hid hnext
      have HTL := Lib.hid htl
      have HIr := Lib.hid hI
      have HFr := Lib.hid hF
      have HOr := Lib.hid hO
      have HGr := Lib.hid hgl
      have HBr := Lib.hid B
      subst hA
      clear hc hKr hx hbl hxn d1 d2 d3 d4 d5 d6 d7 hnext htl hI hF hO hgl B hi
      go_wp2_with fail
      go_quiet (fail)
      have kq := (Keeps.refl (fun _ => False) wr).drewN nq
      have a3 : (wr.drewN nq).cell? ⟨kk, 3, none⟩ = some (.pointer (some ⟨bp, 0, none⟩)) := a3
      have HKq := Lib.hid (HK1.out.down (HBr.out.trans ((kq.below (fun _ _ h => h)).mono HBr.out.size)))
      have HIq := Lib.hid (HIr.out.stay kq)
      have HOq := Lib.hid (HOr.out.kept kq (fun _ _ _ _ h => h))
      have HBq := Lib.hid (HBr.out.trans ((kq.below (fun _ _ h => h)).mono HBr.out.size))
      have HGq := Lib.hid (Nat.lt_of_lt_of_le HGr.out kq.size)
      have CO := Fate.of_any bp g xs i f (wr.drewN nq) (by rw [HL.out]; omega) HKq.out.F hf
      clear kq a0 ci d0 x0 HIr HOr HBr HGr
      go_upto_region 7 with (go_at_call 77; refine CO.mono ?_; rintro e w4 ⟨rfl, k4⟩)
      have ka := k4.alloc (.cells #[.int .i64 f.k, .int .i64 f.t] 53)
      have XF := Blk.new w4 53 [.int .i64 f.k, .int .i64 f.t]
      have I5 := HIq.out.stay ka
      have O5 := HOq.out.kept ka (fun _ _ _ _ h => h)
      have B5 := HBq.out.trans ((ka.below (fun _ _ h => h)).mono HBq.out.size)
      have G5 := Nat.lt_of_lt_of_le HGq.out ka.size
      simp only [List.toArray] at XF
      clear k4 ka CO
      generalize w4.alloc (.cells #[.int .i64 f.k, .int .i64 f.t] 53) = w5 at *
      have y0 : w5.cell? ⟨w4.heap.size, 0, none⟩ = some (.int .i64 f.k) := XF.cellAt (i := 0) rfl
      have CA := Mon.add_is (f.k == 1) I5 HC.out.1 HC.out.2.1 HC.out.2.2 (by rw [HTL.out]; omega) (by have := Win.brk_len m k ((mets js xs).take q); rw [HTL.out] at this; omega)
      have HO5 := Lib.hid O5
      have HB5 := Lib.hid B5
      have HG5 := Lib.hid G5
      clear XF I5 O5 B5 G5 HIq HOq HBq HGq HKq a3 hf
      obtain ⟨y, hy⟩ : ∃ y, (f.k == 1) = y := ⟨_, rfl⟩
      have HY := Lib.hid hy
      rw [hy] at CA
      go_wp2_with (go_at_call 82; refine CA.mono ?_; rintro e w6 ⟨rfl, ⟨F', hI6, hF6⟩, k6⟩; have HI6 := Lib.hid hI6; have HF6 := Lib.hid hF6; have HK6 := Lib.hid k6; clear hI6 hF6 k6)
      go_roundw
      case rel =>
        have hgg := HG5.out
        have hbs := HB5.out.size
        refine ⟨q + 1, F', by omega, by simp, ?_, fun b hb => ?_, HO5.out.kept HK6.out (fun g cur _ hg hF => (HFr.out g hF).2 (Option.some.inj hg).symm), Nat.lt_of_lt_of_le hgg HK6.out.size, below_keeps HB5.out HK6.out HB5.out.size (fun b hb => (HFr.out b hb).1)⟩
        · rw [HNXT.out, HY.out, Win.brk_snoc]
          exact HI6.out
        · rcases HF6.out b hb with hb | hb
          · exact HFr.out b hb
          · exact ⟨by omega, by omega⟩
      case measure => simp [intOf]; omega
    · have hlti : ¬ (q : Int) < (js.length : Int) := by omega
      have htk : (mets js xs).take q = mets js xs := List.take_of_length_le (by rw [mets_len]; omega)
      rw [htk] at hI
      have CK := Mon.broken_is hI (by have := Win.brk_len m k (mets js xs); rw [mets_len] at this; omega)
      have HBr := Lib.hid B
      clear hI hF hO hgl B htk
      go_wp2_with (go_at_call 83; refine CK.mono ?_; rintro e w4 ⟨A4, c4, rfl, h4, k4⟩)
      go_ret
      exact ⟨rfl, HB1.out.trans ((HBr.out.trans ((k4.below (fun _ _ h => h)).mono HBr.out.size)).mono HB1.out.size)⟩
end
end Kw
end Go.Proofs.YtbgiegecfapmlaaGreatDoor

namespace Go.Proofs.YtbgiegecfapmlaaGreatDoor
open Go.RowKit
set_option linter.unusedVariables false
set_option linter.unusedSimpArgs false
namespace Kw
open Rob (own_below own_block_lt ob_mem blk_below below_drew J own_base fc iv Goods nv)
open Job (jc jv)
open Aw (rowsTo rowsTo_len add_len clone_ints all_b busy_b switches_b)
theorem infoS' : (Tryz.prog.info? 9).map (fun i => (i.zero, i.size, i.bytes)) = some (some (.string ByteArray.empty), 1, 16) := by kernel_rfl
theorem infoS : ∃ i, Tryz.prog.info? 9 = some i ∧ i.zero = some (.string ByteArray.empty) ∧ i.size = 1 ∧ i.bytes = 16 := by
  have h := infoS'
  cases hi : Tryz.prog.info? 9 with
  | none => rw [hi] at h; cases h
  | some i =>
    rw [hi] at h
    simp at h
    exact ⟨i, rfl, h.1, h.2.1, h.2.2⟩
/-- What Report tells: as many fates as jobs, as many names as windows are broken. -/
def RepPost (js : List J) (xs : List Fa) (N : Nat) (w : World) (e : Ending) (w' : World) : Prop := ∃ (A1 : Option Addr) (t1 c1 : Nat) (A2 : Option Addr) (c2 : Nat) (n1 n2 : Int) (AB : Option Addr) (cB : Nat) (b s : Int), e = .returned (.agg #[.slice A1 t1 c1, .slice A2 js.length c2, .int .i64 n1, .int .i64 n2, .slice AB N cB, .int .i64 b, .int .i64 s]) ∧
      Has w' 53 2 (.slice A2 js.length c2) js.length (xs.flatMap Fate.cf) ∧ Below w.heap.size w w'
section
variable {w w' : World} {k : Nat} {js : List J} {tr : List Int} {xs : List Fa} {Aj : Option Addr} {cj : Nat} {wv tv : Value} {bp g : Nat} {now : Int}
set_option maxRecDepth 100000 in
set_option maxHeartbeats 4000000 in
theorem sums_is (h : Kg.KnG w k js tr xs now Aj cj wv tv bp g) (hn : js.length ≤ 12) (hnm : ∀ x ∈ js, x.nm.size ≤ 1000) :
    Calls Tryz.prog 45 #[.pointer (some ⟨k, 0, none⟩)] w fun e w' => e = .returned (.tuple #[.int .i64 (Led.earn (rowsTo js xs js.length)), .int .i64 (Led.loss (rowsTo js xs js.length))]) ∧ Below w.heap.size w w' := by
  have CN := Led.new_any w
  have H := Lib.hid h
  have HNM := Lib.hid hnm
  have HXL := Lib.hid h.l
  clear h hnm
  go_enter Tryz.func45, Tryz.ntmps45
  go_upto_region 2 with (go_at_call 76; refine CN.mono ?_; rintro e w1 ⟨p, F, rfl, hF, hI, k1⟩)
  have b1 := k1.below (fun _ _ h => h)
  have h1 := H.out.down b1
  have c0 : w1.cell? ⟨k, 0, none⟩ = some (.slice Aj js.length cj) := h1.K.cellAt (i := 0) rfl
  have HF := Lib.hid hF
  have HI := Lib.hid hI
  have HB1 := Lib.hid b1
  clear CN hF hI k1 b1 h1
  go_wp2_with fail
  go_loopw [15] (fun v wr => ∃ (i : Nat) (F : Nat → Prop), i ≤ js.length ∧ v = .int .i64 (i : Int) ∧ Below w.heap.size w wr ∧ Led.Is wr p F (rowsTo js xs i) ∧ (∀ b, F b → w.heap.size ≤ b)) (fun v _ => js.length - (intOf v).toNat)
  case atStart => exact ⟨0, F, by omega, rfl, HB1.out, HI.out, HF.out⟩
  case round =>
    clear HB1 HI HF c0
    obtain ⟨i, F, hi, rfl, B, hI, hF⟩ := hrel
    by_cases hlt : i < js.length
    · have hlti : (i : Int) < (js.length : Int) := by omega
      have hi0 : (0 : Int) ≤ (i : Int) := by omega
      have hi1 : (i : Int) + 1 ≤ 9223372036854775807 := by omega
      have hr := H.out.down B
      obtain ⟨b, off, x, hA, hx, hb, c0, c1, c2, c3, c4, c5, c6, c7⟩ := Job.cells8 hr.R hlt
      obtain ⟨f, hf⟩ : ∃ f, xs[i]? = some f := ⟨_, List.getElem?_eq_getElem (by have := HXL.out; omega)⟩
      have X := Job.Box.of (Blk.new wr 36 (jc x))
      have ba := (Below.refl wr.heap.size wr).alloc (Nat.le_refl _) (.cells (jc x).toArray 36)
      have B2 := B.trans (ba.mono B.size)
      have h2 := hr.down ba
      have k3 : w.heap.size ≤ wr.heap.size := B.size
      have hkb : (wr.alloc (.cells (jc x).toArray 36)).cell? ⟨k, 3, none⟩ = some (.pointer (some ⟨bp, 0, none⟩)) := h2.K.cellAt (i := 3) rfl
      have hI2 := hI.stay ((Keeps.refl (fun _ => False) wr).alloc (.cells (jc x).toArray 36))
      have CO := Fate.of_any bp g xs i f _ (by rw [HXL.out]; omega) h2.F hf
      have hnx := HNM.out x (List.mem_of_getElem? hx)
      have hrow : rowsTo js xs (i + 1) = (Led.add (rowsTo js xs i) 0 x.nm x.val (f.k == 1)).2 := by simp only [rowsTo]; rw [hx, hf]
      have hrl := rowsTo_len js xs i
      unfold jc at X B2 h2 hkb hI2 CO
      have HB2 := Lib.hid B2
      have HX := Lib.hid X
      have HI2 := Lib.hid hI2
      have HF := Lib.hid hF
      have HROW := Lib.hid hrow
      have HK3 := Lib.hid k3
      rw [hA]
      clear B hI hF hr hA hx hb ba h2 hf hrow k3 X B2 hI2
      go_upto_region 5 with fail
      simp only [List.toArray] at hkb
      generalize wr.alloc (.cells #[.string x.nm, .int .i64 x.rel, .int .i64 x.dl, .int .i64 x.bud, .int .i64 x.act, .int .i64 x.val, .int .i64 x.cln, .bool x.hard] 36) = w2 at *
      clear c0 c1 c2 c3 c4 c5 c6 c7
      go_upto_region 6 with (go_at_call 77; refine CO.mono ?_; rintro e w3 ⟨rfl, k3⟩)
      have b3 := (k3.below (fun _ _ h => h)).trans (((Below.refl w3.heap.size w3).alloc (Nat.le_refl _) (.cells #[.int .i64 f.k, .int .i64 f.t] 53)).mono k3.size)
      have hI4 := (HI2.out.stay k3).stay ((Keeps.refl (fun _ => False) w3).alloc (.cells #[.int .i64 f.k, .int .i64 f.t] 53))
      have B4 := HB2.out.trans (b3.mono HB2.out.size)
      have X4 := HX.out.below b3
      have Y := Blk.new w3 53 [.int .i64 f.k, .int .i64 f.t]
      have y0 := Y.cellAt (i := 0) rfl
      obtain ⟨x0, x1, x2, x3, x4, x5, x6, x7⟩ := X4
      have HI4 := Lib.hid hI4
      have HB4 := Lib.hid B4
      clear k3 b3 hI4 B4 Y CO hkb HB2 HX HI2 x1 x2 x3 x4 x6 x7
      generalize w3.alloc (.cells #[.int .i64 f.k, .int .i64 f.t] 53) = w4 at *
      by_cases hm : f.k = 1
      · have q1 : (f.k == 1) = true := by simpa using hm
        obtain ⟨⟨r, ys⟩, hadd⟩ : ∃ q, Led.add (rowsTo js xs i) 0 x.nm x.val true = q := ⟨_, rfl⟩
        have CE := Led.earn_any p F (rowsTo js xs i) 0 x.nm x.val w4 (by omega) HI4.out (by omega) (by unfold maxLen; omega) r ys hadd
        have HR2 := Lib.hid (show rowsTo js xs (i + 1) = ys by rw [HROW.out, q1, hadd])
        clear hadd
        clear hm
        go_wp2_with (go_at_call 78; refine CE.mono ?_; rintro e w5 ⟨rfl, ⟨F', hI5, hF5⟩, k5⟩)
        go_roundw
        case rel => exact ⟨i + 1, F', by omega, by simp, below_keeps HB4.out k5 HB4.out.size HF.out, by rw [HR2.out]; exact hI5, fun b hb => (hF5 b hb).elim (HF.out b) (fun h => Nat.le_trans HB4.out.size h)⟩
        case measure => simp [intOf]; omega
      · have q1 : (f.k == 1) = false := by simpa using hm
        obtain ⟨⟨r, ys⟩, hadd⟩ : ∃ q, Led.add (rowsTo js xs i) 0 x.nm x.val false = q := ⟨_, rfl⟩
        have CE := Led.lose_any p F (rowsTo js xs i) 0 x.nm x.val w4 (by omega) HI4.out (by omega) (by unfold maxLen; omega) r ys hadd
        have HR2 := Lib.hid (show rowsTo js xs (i + 1) = ys by rw [HROW.out, q1, hadd])
        clear hadd
        clear hm
        go_wp2_with (go_at_call 79; refine CE.mono ?_; rintro e w5 ⟨rfl, ⟨F', hI5, hF5⟩, k5⟩)
        go_roundw
        case rel => exact ⟨i + 1, F', by omega, by simp, below_keeps HB4.out k5 HB4.out.size HF.out, by rw [HR2.out]; exact hI5, fun b hb => (hF5 b hb).elim (HF.out b) (fun h => Nat.le_trans HB4.out.size h)⟩
        case measure => simp [intOf]; omega
    · have hlti : ¬ (i : Int) < (js.length : Int) := by omega
      have hin : i = js.length := by omega
      subst hin
      have C1 := Led.earned_any p F (rowsTo js xs js.length) wr hI
      have C2 := Led.lost_any p F (rowsTo js xs js.length) wr hI
      have HB := Lib.hid B
      clear B hI hF hlti
      go_wp2_with (first | (go_at_call 80; refine C1.mono ?_; rintro e w5 ⟨rfl, rfl⟩) | (go_at_call 81; refine C2.mono ?_; rintro e w6 ⟨rfl, rfl⟩))
      refine bodyPost_ret (v := .tuple #[.int .i64 (Led.earn (rowsTo js xs js.length)), .int .i64 (Led.loss (rowsTo js xs js.length))]) (by simp [results, Tryz.results45, go_sem]) rfl ?_
      exact ⟨rfl, HB.out⟩
set_option maxRecDepth 100000 in
set_option maxHeartbeats 8000000 in
theorem report_w {A : Option Addr} {c m kk cw : Nat} {Ay : Option Addr} (h : Kg.KnG w k js tr xs now Aj cj (.slice Ay 1 cw) (.slice A tr.length c) bp g) (HW : Has w 58 3 (.slice Ay 1 cw) 1 (wc m kk)) (hn : js.length ≤ 12) (hnm : ∀ x ∈ js, x.nm = ⟨#[97]⟩) (htl : tr.length ≤ 1000000) (hk1 : 1 ≤ kk) (hk2 : kk ≤ 64) (hmk : m ≤ kk) :
    Calls Tryz.prog 18 #[.pointer (some ⟨k, 0, none⟩)] w fun e w' => RepPost js xs (Win.brk m kk (mets js xs)).length w e w' := by
  have bO := (Below.refl w.heap.size w).alloc (Nat.le_refl _) (.cells #[.slice none 0 0, .slice none 0 0, .int .i64 0, .int .i64 0, .slice none 0 0, .int .i64 0, .int .i64 0] 43)
  have XO := Blk.new w 43 [.slice none 0 0, .slice none 0 0, .int .i64 0, .int .i64 0, .slice none 0 0, .int .i64 0, .int .i64 0]
  have h1 := h.down bO
  have hOl := XO.lt
  have HBO := Lib.hid bO
  have HXO := Lib.hid XO
  have H1 := Lib.hid h1
  have HOL := Lib.hid hOl
  have HNM : Hid (∀ x ∈ js, x.nm.size ≤ 1000) := Lib.hid (fun x hx => by rw [hnm x hx]; decide)
  have HNA := Lib.hid hnm
  have HWC := Lib.hid (Rob.Has.down HW bO)
  have HKM := Lib.hid (show 1 ≤ kk ∧ kk ≤ 64 ∧ m ≤ kk from ⟨hk1, hk2, hmk⟩)
  clear h bO XO h1 hOl hnm HW hk1 hk2 hmk
  go_enter Tryz.func18, Tryz.ntmps18
  go_upto_region 1 with fail
  generalize w.alloc (.cells #[.slice none 0 0, .slice none 0 0, .int .i64 0, .int .i64 0, .slice none 0 0, .int .i64 0, .int .i64 0] 43) = w1 at *
  go_cut [3] (fun v wx => ∃ (R : Nat) (v1 v2 : Value) (b s : Int), v = .pointer (some ⟨R, 0, none⟩) ∧ Has wx 3 1 v1 tr.length (tr.map iv) ∧ Has wx 53 2 v2 js.length (xs.flatMap Fate.cf) ∧ Blk wx R 43 [v1, v2, .int .i64 0, .int .i64 0, .slice none 0 0, .int .i64 b, .int .i64 s] ∧ w1.heap.size ≤ R ∧ Below w1.heap.size w1 wx)
  case first =>
    have hd := below_drew w1
    have h2 := H1.out.down hd
    have hS0 : w1.drew.cell? ⟨k, 2, none⟩ = some (.slice A tr.length c) ∧ w1.drew.cell? ⟨k, 3, none⟩ = some (.pointer (some ⟨bp, 0, none⟩)) := ⟨h2.K.cellAt (i := 2) rfl, h2.K.cellAt (i := 3) rfl⟩
    have HH2 := Lib.hid h2
    have HD := Lib.hid hd
    have HSS : Hid (∀ W, Kg.KnG W k js tr xs now Aj cj (.slice Ay 1 cw) (.slice A tr.length c) bp g → W.cell? ⟨k, 2, none⟩ = some (.slice A tr.length c) ∧ W.cell? ⟨k, 3, none⟩ = some (.pointer (some ⟨bp, 0, none⟩))) := Lib.hid (fun W hW => ⟨hW.K.cellAt (i := 2) rfl, hW.K.cellAt (i := 3) rfl⟩)
    have CC : Hid (∀ W, Kg.KnG W k js tr xs now Aj cj (.slice Ay 1 cw) (.slice A tr.length c) bp g → _) := Lib.hid (fun W hW => clone_ints hW.T (by omega))
    have CA : Hid (∀ W, Kg.KnG W k js tr xs now Aj cj (.slice Ay 1 cw) (.slice A tr.length c) bp g → _) := Lib.hid (fun W hW => all_b hW.F (by rw [hW.l]; omega))
    have CB : Hid (∀ W, Kg.KnG W k js tr xs now Aj cj (.slice Ay 1 cw) (.slice A tr.length c) bp g → _) := Lib.hid (fun W hW => busy_b hW.T)
    have CS : Hid (∀ W, Kg.KnG W k js tr xs now Aj cj (.slice Ay 1 cw) (.slice A tr.length c) bp g → _) := Lib.hid (fun W hW => switches_b hW.T)
    have HXL := Lib.hid h2.l
    clear hd h2
    refine wp_region_held_drew (S := fun W => W.cell? ⟨k, 2, none⟩ = some (.slice A tr.length c) ∧ W.cell? ⟨k, 3, none⟩ = some (.pointer (some ⟨bp, 0, none⟩))) (by kernel_rfl) hS0 (fun hHeld => ?_)
    generalize w1.drew = w2 at *
    have B2 := Below.refl w2.heap.size w2
    refine wpAnyH_take (i := 0) (oi := ⟨some 6, _, _, _, _, _⟩) (v := ?_) rfl (by kernel_rfl) (by kernel_rfl) (by kernel_rfl) (fun _ _ _ h => h) (Or.inl ⟨by kernel_rfl, ?_⟩) (by assumption) ?_
    rotate_left
    · intro w hSw; (try dsimp only at hSw); obtain ⟨q1, q2⟩ := hSw; go_simp; try with_reducible rfl
    rotate_left
    try simp only [Act.put, List.setIfInBounds_toArray, List.set_cons_zero, List.set_cons_succ]
    refine wpAnyH_take (i := 1) (oi := ⟨some 7, _, _, _, _, _⟩) (v := ?_) rfl (by kernel_rfl) (by kernel_rfl) (by kernel_rfl) (fun _ _ _ h => h) (Or.inl ⟨by kernel_rfl, ?_⟩) (by assumption) ?_
    rotate_left
    · intro w hSw; (try dsimp only at hSw); obtain ⟨q1, q2⟩ := hSw; go_simp; try with_reducible rfl
    rotate_left
    try simp only [Act.put, List.setIfInBounds_toArray, List.set_cons_zero, List.set_cons_succ]
    refine wpAnyH_take (i := 2) (oi := ⟨some 8, _, _, _, _, _⟩) (v := ?_) rfl (by kernel_rfl) (by kernel_rfl) (by kernel_rfl) (fun _ _ _ h => h) (Or.inl ⟨by kernel_rfl, ?_⟩) (by assumption) ?_
    rotate_left
    · intro w hSw; (try dsimp only at hSw); obtain ⟨q1, q2⟩ := hSw; go_simp; try with_reducible rfl
    rotate_left
    try simp only [Act.put, List.setIfInBounds_toArray, List.set_cons_zero, List.set_cons_succ]
    refine wpAnyH_take (i := 3) (oi := ⟨some 9, _, _, _, _, _⟩) (v := ?_) rfl (by kernel_rfl) (by kernel_rfl) (by kernel_rfl) (fun _ _ _ h => h) (Or.inl ⟨by kernel_rfl, ?_⟩) (by assumption) ?_
    rotate_left
    · intro w hSw; (try dsimp only at hSw); obtain ⟨q1, q2⟩ := hSw; go_simp; try with_reducible rfl
    rotate_left
    try simp only [Act.put, List.setIfInBounds_toArray, List.set_cons_zero, List.set_cons_succ]
    refine wpAnyH_take (i := 5) (oi := ⟨some 11, _, _, _, _, _⟩) (v := ?_) rfl (by kernel_rfl) (by kernel_rfl) (by kernel_rfl) (fun _ _ _ h => h) (Or.inl ⟨by kernel_rfl, ?_⟩) (by assumption) ?_
    rotate_left
    · intro w hSw; (try dsimp only at hSw); obtain ⟨q1, q2⟩ := hSw; go_simp; try with_reducible rfl
    rotate_left
    try simp only [Act.put, List.setIfInBounds_toArray, List.set_cons_zero, List.set_cons_succ]
    refine wpAnyH_take (i := 6) (oi := ⟨some 12, _, _, _, _, _⟩) (v := ?_) rfl (by kernel_rfl) (by kernel_rfl) (by kernel_rfl) (fun _ _ _ h => h) (Or.inl ⟨by kernel_rfl, ?_⟩) (by assumption) ?_
    rotate_left
    · intro w hSw; (try dsimp only at hSw); obtain ⟨q1, q2⟩ := hSw; go_simp; try with_reducible rfl
    rotate_left
    try simp only [Act.put, List.setIfInBounds_toArray, List.set_cons_zero, List.set_cons_succ]
    refine wpAnyH_take (i := 7) (oi := ⟨some 13, _, _, _, _, _⟩) (v := ?_) rfl (by kernel_rfl) (by kernel_rfl) (by kernel_rfl) (fun _ _ _ h => h) (Or.inl ⟨by kernel_rfl, ?_⟩) (by assumption) ?_
    rotate_left
    · intro w hSw; (try dsimp only at hSw); obtain ⟨q1, q2⟩ := hSw; go_simp; try with_reducible rfl
    rotate_left
    try simp only [Act.put, List.setIfInBounds_toArray, List.set_cons_zero, List.set_cons_succ]
    refine wpAnyH_take (i := 8) (oi := ⟨some 14, _, _, _, _, _⟩) (v := ?_) rfl (by kernel_rfl) (by kernel_rfl) (by kernel_rfl) (fun _ _ _ h => h) (Or.inl ⟨by kernel_rfl, ?_⟩) (by assumption) ?_
    rotate_left
    · intro w hSw; (try dsimp only at hSw); obtain ⟨q1, q2⟩ := hSw; go_simp; try with_reducible rfl
    rotate_left
    try simp only [Act.put, List.setIfInBounds_toArray, List.set_cons_zero, List.set_cons_succ]
    refine wpAnyH_take (i := 10) (oi := ⟨some 16, _, _, _, _, _⟩) (v := ?_) rfl (by kernel_rfl) (by kernel_rfl) (by kernel_rfl) (fun _ _ _ h => h) (Or.inl ⟨by kernel_rfl, ?_⟩) (by assumption) ?_
    rotate_left
    · intro w hSw; (try dsimp only at hSw); obtain ⟨q1, q2⟩ := hSw; go_simp; try with_reducible rfl
    rotate_left
    try simp only [Act.put, List.setIfInBounds_toArray, List.set_cons_zero, List.set_cons_succ]
    refine wpAnyH_take (i := 11) (oi := ⟨some 17, _, _, _, _, _⟩) (v := ?_) rfl (by kernel_rfl) (by kernel_rfl) (by kernel_rfl) (fun _ _ _ h => h) (Or.inl ⟨by kernel_rfl, ?_⟩) (by assumption) ?_
    rotate_left
    · intro w hSw; (try dsimp only at hSw); obtain ⟨q1, q2⟩ := hSw; go_simp; try with_reducible rfl
    rotate_left
    try simp only [Act.put, List.setIfInBounds_toArray, List.set_cons_zero, List.set_cons_succ]
    refine wpAnyH_take (i := 12) (oi := ⟨some 18, _, _, _, _, _⟩) (v := ?_) rfl (by kernel_rfl) (by kernel_rfl) (by kernel_rfl) (fun _ _ _ h => h) (Or.inl ⟨by kernel_rfl, ?_⟩) (by assumption) ?_
    rotate_left
    · intro w hSw; (try dsimp only at hSw); obtain ⟨q1, q2⟩ := hSw; go_simp; try with_reducible rfl
    rotate_left
    try simp only [Act.put, List.setIfInBounds_toArray, List.set_cons_zero, List.set_cons_succ]
    refine wpAnyH_take (i := 13) (oi := ⟨some 19, _, _, _, _, _⟩) (v := ?_) rfl (by kernel_rfl) (by kernel_rfl) (by kernel_rfl) (fun _ _ _ h => h) (Or.inl ⟨by kernel_rfl, ?_⟩) (by assumption) ?_
    rotate_left
    · intro w hSw; (try dsimp only at hSw); obtain ⟨q1, q2⟩ := hSw; go_simp; try with_reducible rfl
    rotate_left
    try simp only [Act.put, List.setIfInBounds_toArray, List.set_cons_zero, List.set_cons_succ]
    refine wpAnyH_take (i := 15) (oi := ⟨some 21, _, _, _, _, _⟩) (v := ?_) rfl (by kernel_rfl) (by kernel_rfl) (by kernel_rfl) (fun _ _ _ h => h) (Or.inl ⟨by kernel_rfl, ?_⟩) (by assumption) ?_
    rotate_left
    · intro w hSw; (try dsimp only at hSw); obtain ⟨q1, q2⟩ := hSw; go_simp; try with_reducible rfl
    rotate_left
    try simp only [Act.put, List.setIfInBounds_toArray, List.set_cons_zero, List.set_cons_succ]
    refine wpAnyH_take (i := 16) (oi := ⟨some 22, _, _, _, _, _⟩) (v := ?_) rfl (by kernel_rfl) (by kernel_rfl) (by kernel_rfl) (fun _ _ _ h => h) (Or.inl ⟨by kernel_rfl, ?_⟩) (by assumption) ?_
    rotate_left
    · intro w hSw; (try dsimp only at hSw); obtain ⟨q1, q2⟩ := hSw; go_simp; try with_reducible rfl
    rotate_left
    try simp only [Act.put, List.setIfInBounds_toArray, List.set_cons_zero, List.set_cons_succ]
    refine wpAnyH_take (i := 17) (oi := ⟨some 23, _, _, _, _, _⟩) (v := ?_) rfl (by kernel_rfl) (by kernel_rfl) (by kernel_rfl) (fun _ _ _ h => h) (Or.inl ⟨by kernel_rfl, ?_⟩) (by assumption) ?_
    rotate_left
    · intro w hSw; (try dsimp only at hSw); obtain ⟨q1, q2⟩ := hSw; go_simp; try with_reducible rfl
    rotate_left
    try simp only [Act.put, List.setIfInBounds_toArray, List.set_cons_zero, List.set_cons_succ]
    refine wpAnyH_take (i := 18) (oi := ⟨some 24, _, _, _, _, _⟩) (v := ?_) rfl (by kernel_rfl) (by kernel_rfl) (by kernel_rfl) (fun _ _ _ h => h) (Or.inl ⟨by kernel_rfl, ?_⟩) (by assumption) ?_
    rotate_left
    · intro w hSw; (try dsimp only at hSw); obtain ⟨q1, q2⟩ := hSw; go_simp; try with_reducible rfl
    rotate_left
    try simp only [Act.put, List.setIfInBounds_toArray, List.set_cons_zero, List.set_cons_succ]
    refine wpAnyH_ready (rs := [4, 21]) (by kernel_rfl) (by simp) ?_
    refine AllReadyH.cons (o := ⟨some 10, _, _, _, _, _⟩) rfl (fun K hK => ?_) (AllReadyH.cons (o := ⟨some 3, _, _, _, _, _⟩) rfl (fun K hK => ?_) AllReadyH.nil)
    · skip
      go_simp
      refine (CC.out _ (HH2.out.down B2)).mono ?_
      rintro e w3 ⟨A1, c1, rfl, P3, ba⟩
      have B3 := B2.trans (ba.mono B2.size)
      clear B2 ba
      go_wp2_with fail
      refine hK.out _ _ (HSS.out _ (HH2.out.down B3)) (fun hHeld => ?_)
      clear hK K
      try simp only [Act.put, List.setIfInBounds_toArray, List.set_cons_zero, List.set_cons_succ]
      refine wpAnyH_ready (rs := [9, 21]) (by kernel_rfl) (by simp) ?_
      refine AllReadyH.cons (o := ⟨some 15, _, _, _, _, _⟩) rfl (fun K hK => ?_) (AllReadyH.cons (o := ⟨some 3, _, _, _, _, _⟩) rfl (fun K hK => ?_) AllReadyH.nil)
      · skip
        go_simp
        refine (CA.out _ (HH2.out.down B3)).mono ?_
        rintro e w4 ⟨A2, c2, rfl, Q4, ba⟩
        have B4 := B3.trans (ba.mono B3.size)
        have P4 := Aw.Has.down' P3 ba
        clear B3 P3 ba
        go_wp2_with fail
        refine hK.out _ _ (HSS.out _ (HH2.out.down B4)) (fun hHeld => ?_)
        clear hK K
        try simp only [Act.put, List.setIfInBounds_toArray, List.set_cons_zero, List.set_cons_succ]
        refine wpAnyH_ready (rs := [14, 21]) (by kernel_rfl) (by simp) ?_
        refine AllReadyH.cons (o := ⟨some 20, _, _, _, _, _⟩) rfl (fun K hK => ?_) (AllReadyH.cons (o := ⟨some 3, _, _, _, _, _⟩) rfl (fun K hK => ?_) AllReadyH.nil)
        · skip
          go_simp
          refine (CB.out _ (HH2.out.down B4)).mono ?_
          rintro e w5 ⟨⟨b, rfl⟩, ba⟩
          have B5 := B4.trans (ba.mono B4.size)
          have P5 := Aw.Has.down' P4 ba
          have Q5 := Aw.Has.down' Q4 ba
          clear B4 P4 Q4 ba
          go_wp2_with fail
          refine hK.out _ _ (HSS.out _ (HH2.out.down B5)) (fun hHeld => ?_)
          clear hK K
          try simp only [Act.put, List.setIfInBounds_toArray, List.set_cons_zero, List.set_cons_succ]
          refine wpAnyH_ready (rs := [19, 21]) (by kernel_rfl) (by simp) ?_
          refine AllReadyH.cons (o := ⟨some 25, _, _, _, _, _⟩) rfl (fun K hK => ?_) (AllReadyH.cons (o := ⟨some 3, _, _, _, _, _⟩) rfl (fun K hK => ?_) AllReadyH.nil)
          · skip
            go_simp
            refine (CS.out _ (HH2.out.down B5)).mono ?_
            rintro e w6 ⟨⟨s, rfl⟩, ba⟩
            have B6 := B5.trans (ba.mono B5.size)
            have P6 := Aw.Has.down' P5 ba
            have Q6 := Aw.Has.down' Q5 ba
            clear B5 P5 Q5 ba
            go_wp2_with fail
            refine hK.out _ _ (HSS.out _ (HH2.out.down B6)) (fun hHeld => ?_)
            clear hK K
            try simp only [Act.put, List.setIfInBounds_toArray, List.set_cons_zero, List.set_cons_succ]
            refine wpAnyH_take (i := 20) (oi := ⟨some 26, _, _, _, _, _⟩) (v := ?_) rfl (by kernel_rfl) (by kernel_rfl) (by kernel_rfl) (fun _ _ _ h => h) (Or.inl ⟨by kernel_rfl, ?_⟩) (by assumption) ?_
            rotate_left
            · intro w hSw; (try dsimp only at hSw); obtain ⟨q1, q2⟩ := hSw; go_simp; try with_reducible rfl
            rotate_left
            try simp only [Act.put, List.setIfInBounds_toArray, List.set_cons_zero, List.set_cons_succ]
            refine wpAnyH_ready (rs := [21]) (by kernel_rfl) (by simp) ?_
            refine AllReadyH.cons (o := ⟨some 3, _, _, _, _, _⟩) rfl (fun K hK => ?_) AllReadyH.nil
            · skip
              go_simp
              have ba := (Below.refl w6.heap.size w6).alloc (Nat.le_refl _) (.cells #[.slice none 0 0, .slice none 0 0, .int .i64 0, .int .i64 0, .slice none 0 0, .int .i64 0, .int .i64 0] 43)
              have X7 := Blk.new w6 43 [.slice none 0 0, .slice none 0 0, .int .i64 0, .int .i64 0, .slice none 0 0, .int .i64 0, .int .i64 0]
              have B7 := B6.trans (ba.mono B6.size)
              have P7 := Aw.Has.down' P6 ba
              have Q7 := Aw.Has.down' Q6 ba
              obtain ⟨R, hR⟩ : ∃ R, w6.heap.size = R := ⟨_, rfl⟩
              have hRl : w2.heap.size ≤ R := by rw [← hR]; exact B6.size
              rw [hR] at X7 ⊢
              clear B6 P6 Q6 ba hR
              generalize w6.alloc (.cells #[.slice none 0 0, .slice none 0 0, .int .i64 0, .int .i64 0, .slice none 0 0, .int .i64 0, .int .i64 0] 43) = w7 at *
              refine hK.out _ _ (HSS.out _ (HH2.out.down B7)) (fun hHeld => ?_)
              clear hK K
              try simp only [Act.put, List.setIfInBounds_toArray, List.set_cons_zero, List.set_cons_succ]
              have x0 := X7.cellAt (i := 0) rfl
              have x1 := X7.cellAt (i := 1) rfl
              have x2 := X7.cellAt (i := 2) rfl
              have x3 := X7.cellAt (i := 3) rfl
              have x4 := X7.cellAt (i := 4) rfl
              have x5 := X7.cellAt (i := 5) rfl
              have x6 := X7.cellAt (i := 6) rfl
              have fR := X7.frozen
              refine wpAnyH_ready (rs := [22]) (by kernel_rfl) (by simp) ?_
              refine AllReadyH.cons (o := ⟨none, _, _, _, _, _⟩) rfl (fun K hK => ?_) AllReadyH.nil
              go_simp
              have XE := (((((((X7.set_ 0 (.slice A1 tr.length c1)).set_ 1 (.slice A2 xs.length c2)).set_ 2 (.int .i64 0)).set_ 3 (.int .i64 0)).set_ 4 (.slice none 0 0)).set_ 5 (.int .i64 b)).set_ 6 (.int .i64 s))
              have KE : Keeps (· = R) w7 (((((((w7.setCell ⟨R, 0, none⟩ (.slice A1 tr.length c1)).setCell ⟨R, 1, none⟩ (.slice A2 xs.length c2)).setCell ⟨R, 2, none⟩ (.int .i64 0)).setCell ⟨R, 3, none⟩ (.int .i64 0)).setCell ⟨R, 4, none⟩ (.slice none 0 0)).setCell ⟨R, 5, none⟩ (.int .i64 b)).setCell ⟨R, 6, none⟩ (.int .i64 s)) := ((((((((keep1 R w7).setCell ⟨R, 0, none⟩ (.inl rfl) _).setCell ⟨R, 1, none⟩ (.inl rfl) _).setCell ⟨R, 2, none⟩ (.inl rfl) _).setCell ⟨R, 3, none⟩ (.inl rfl) _).setCell ⟨R, 4, none⟩ (.inl rfl) _).setCell ⟨R, 5, none⟩ (.inl rfl) _).setCell ⟨R, 6, none⟩ (.inl rfl) _)
              have PE := P7.kept KE (fun g cur hg _ => own_ne X7 (by decide) g cur hg)
              have QE := Q7.kept KE (fun g cur hg _ => own_ne X7 (by decide) g cur hg)
              have BE := below_keeps B7 KE B7.size (fun i hi => by rw [hi]; exact hRl)
              clear X7 P7 Q7 B7 KE fR x0 x1 x2 x3 x4 x5 x6
              generalize (((((((w7.setCell ⟨R, 0, none⟩ (.slice A1 tr.length c1)).setCell ⟨R, 1, none⟩ (.slice A2 xs.length c2)).setCell ⟨R, 2, none⟩ (.int .i64 0)).setCell ⟨R, 3, none⟩ (.int .i64 0)).setCell ⟨R, 4, none⟩ (.slice none 0 0)).setCell ⟨R, 5, none⟩ (.int .i64 b)).setCell ⟨R, 6, none⟩ (.int .i64 s)) = wE at *
              refine hK.out _ _ (HSS.out _ (HH2.out.down BE)) (fun hHeld => ?_)
              clear hK K
              try simp only [Act.put, List.setIfInBounds_toArray, List.set_cons_zero, List.set_cons_succ]
              refine wpAnyH_done (by kernel_rfl) ?_ _
              go_wp2_with fail
              go_meet
              case rel =>
                rw [HXL.out] at QE XE
                have hds := HD.out.size
                exact ⟨R, _, _, b, s, rfl, PE, QE, XE, by omega, HD.out.trans (BE.mono hds)⟩
          · skip
            go_simp
            have ba := (Below.refl w5.heap.size w5).alloc (Nat.le_refl _) (.cells #[.slice none 0 0, .slice none 0 0, .int .i64 0, .int .i64 0, .slice none 0 0, .int .i64 0, .int .i64 0] 43)
            have X6 := Blk.new w5 43 [.slice none 0 0, .slice none 0 0, .int .i64 0, .int .i64 0, .slice none 0 0, .int .i64 0, .int .i64 0]
            have B6 := B5.trans (ba.mono B5.size)
            have P6 := Aw.Has.down' P5 ba
            have Q6 := Aw.Has.down' Q5 ba
            obtain ⟨R, hR⟩ : ∃ R, w5.heap.size = R := ⟨_, rfl⟩
            have hRl : w2.heap.size ≤ R := by rw [← hR]; exact B5.size
            rw [hR] at X6 ⊢
            clear B5 P5 Q5 ba hR
            generalize w5.alloc (.cells #[.slice none 0 0, .slice none 0 0, .int .i64 0, .int .i64 0, .slice none 0 0, .int .i64 0, .int .i64 0] 43) = w6 at *
            refine hK.out _ _ (HSS.out _ (HH2.out.down B6)) (fun hHeld => ?_)
            clear hK K
            try simp only [Act.put, List.setIfInBounds_toArray, List.set_cons_zero, List.set_cons_succ]
            refine wpAnyH_ready (rs := [19]) (by kernel_rfl) (by simp) ?_
            refine AllReadyH.cons (o := ⟨some 25, _, _, _, _, _⟩) rfl (fun K hK => ?_) AllReadyH.nil
            · skip
              go_simp
              refine (CS.out _ (HH2.out.down B6)).mono ?_
              rintro e w7 ⟨⟨s, rfl⟩, ba⟩
              have B7 := B6.trans (ba.mono B6.size)
              have P7 := Aw.Has.down' P6 ba
              have Q7 := Aw.Has.down' Q6 ba
              have X7 := blk_below X6 ba
              clear B6 P6 Q6 X6 ba
              go_wp2_with fail
              refine hK.out _ _ (HSS.out _ (HH2.out.down B7)) (fun hHeld => ?_)
              clear hK K
              try simp only [Act.put, List.setIfInBounds_toArray, List.set_cons_zero, List.set_cons_succ]
              refine wpAnyH_take (i := 20) (oi := ⟨some 26, _, _, _, _, _⟩) (v := ?_) rfl (by kernel_rfl) (by kernel_rfl) (by kernel_rfl) (fun _ _ _ h => h) (Or.inl ⟨by kernel_rfl, ?_⟩) (by assumption) ?_
              rotate_left
              · intro w hSw; (try dsimp only at hSw); obtain ⟨q1, q2⟩ := hSw; go_simp; try with_reducible rfl
              rotate_left
              try simp only [Act.put, List.setIfInBounds_toArray, List.set_cons_zero, List.set_cons_succ]
              have x0 := X7.cellAt (i := 0) rfl
              have x1 := X7.cellAt (i := 1) rfl
              have x2 := X7.cellAt (i := 2) rfl
              have x3 := X7.cellAt (i := 3) rfl
              have x4 := X7.cellAt (i := 4) rfl
              have x5 := X7.cellAt (i := 5) rfl
              have x6 := X7.cellAt (i := 6) rfl
              have fR := X7.frozen
              refine wpAnyH_ready (rs := [22]) (by kernel_rfl) (by simp) ?_
              refine AllReadyH.cons (o := ⟨none, _, _, _, _, _⟩) rfl (fun K hK => ?_) AllReadyH.nil
              go_simp
              have XE := (((((((X7.set_ 0 (.slice A1 tr.length c1)).set_ 1 (.slice A2 xs.length c2)).set_ 2 (.int .i64 0)).set_ 3 (.int .i64 0)).set_ 4 (.slice none 0 0)).set_ 5 (.int .i64 b)).set_ 6 (.int .i64 s))
              have KE : Keeps (· = R) w7 (((((((w7.setCell ⟨R, 0, none⟩ (.slice A1 tr.length c1)).setCell ⟨R, 1, none⟩ (.slice A2 xs.length c2)).setCell ⟨R, 2, none⟩ (.int .i64 0)).setCell ⟨R, 3, none⟩ (.int .i64 0)).setCell ⟨R, 4, none⟩ (.slice none 0 0)).setCell ⟨R, 5, none⟩ (.int .i64 b)).setCell ⟨R, 6, none⟩ (.int .i64 s)) := ((((((((keep1 R w7).setCell ⟨R, 0, none⟩ (.inl rfl) _).setCell ⟨R, 1, none⟩ (.inl rfl) _).setCell ⟨R, 2, none⟩ (.inl rfl) _).setCell ⟨R, 3, none⟩ (.inl rfl) _).setCell ⟨R, 4, none⟩ (.inl rfl) _).setCell ⟨R, 5, none⟩ (.inl rfl) _).setCell ⟨R, 6, none⟩ (.inl rfl) _)
              have PE := P7.kept KE (fun g cur hg _ => own_ne X7 (by decide) g cur hg)
              have QE := Q7.kept KE (fun g cur hg _ => own_ne X7 (by decide) g cur hg)
              have BE := below_keeps B7 KE B7.size (fun i hi => by rw [hi]; exact hRl)
              clear X7 P7 Q7 B7 KE fR x0 x1 x2 x3 x4 x5 x6
              generalize (((((((w7.setCell ⟨R, 0, none⟩ (.slice A1 tr.length c1)).setCell ⟨R, 1, none⟩ (.slice A2 xs.length c2)).setCell ⟨R, 2, none⟩ (.int .i64 0)).setCell ⟨R, 3, none⟩ (.int .i64 0)).setCell ⟨R, 4, none⟩ (.slice none 0 0)).setCell ⟨R, 5, none⟩ (.int .i64 b)).setCell ⟨R, 6, none⟩ (.int .i64 s)) = wE at *
              refine hK.out _ _ (HSS.out _ (HH2.out.down BE)) (fun hHeld => ?_)
              clear hK K
              try simp only [Act.put, List.setIfInBounds_toArray, List.set_cons_zero, List.set_cons_succ]
              refine wpAnyH_done (by kernel_rfl) ?_ _
              go_wp2_with fail
              go_meet
              case rel =>
                rw [HXL.out] at QE XE
                have hds := HD.out.size
                exact ⟨R, _, _, b, s, rfl, PE, QE, XE, by omega, HD.out.trans (BE.mono hds)⟩
        · skip
          go_simp
          have ba := (Below.refl w4.heap.size w4).alloc (Nat.le_refl _) (.cells #[.slice none 0 0, .slice none 0 0, .int .i64 0, .int .i64 0, .slice none 0 0, .int .i64 0, .int .i64 0] 43)
          have X5 := Blk.new w4 43 [.slice none 0 0, .slice none 0 0, .int .i64 0, .int .i64 0, .slice none 0 0, .int .i64 0, .int .i64 0]
          have B5 := B4.trans (ba.mono B4.size)
          have P5 := Aw.Has.down' P4 ba
          have Q5 := Aw.Has.down' Q4 ba
          obtain ⟨R, hR⟩ : ∃ R, w4.heap.size = R := ⟨_, rfl⟩
          have hRl : w2.heap.size ≤ R := by rw [← hR]; exact B4.size
          rw [hR] at X5 ⊢
          clear B4 P4 Q4 ba hR
          generalize w4.alloc (.cells #[.slice none 0 0, .slice none 0 0, .int .i64 0, .int .i64 0, .slice none 0 0, .int .i64 0, .int .i64 0] 43) = w5 at *
          refine hK.out _ _ (HSS.out _ (HH2.out.down B5)) (fun hHeld => ?_)
          clear hK K
          try simp only [Act.put, List.setIfInBounds_toArray, List.set_cons_zero, List.set_cons_succ]
          refine wpAnyH_ready (rs := [14]) (by kernel_rfl) (by simp) ?_
          refine AllReadyH.cons (o := ⟨some 20, _, _, _, _, _⟩) rfl (fun K hK => ?_) AllReadyH.nil
          · skip
            go_simp
            refine (CB.out _ (HH2.out.down B5)).mono ?_
            rintro e w6 ⟨⟨b, rfl⟩, ba⟩
            have B6 := B5.trans (ba.mono B5.size)
            have P6 := Aw.Has.down' P5 ba
            have Q6 := Aw.Has.down' Q5 ba
            have X6 := blk_below X5 ba
            clear B5 P5 Q5 X5 ba
            go_wp2_with fail
            refine hK.out _ _ (HSS.out _ (HH2.out.down B6)) (fun hHeld => ?_)
            clear hK K
            try simp only [Act.put, List.setIfInBounds_toArray, List.set_cons_zero, List.set_cons_succ]
            refine wpAnyH_ready (rs := [19]) (by kernel_rfl) (by simp) ?_
            refine AllReadyH.cons (o := ⟨some 25, _, _, _, _, _⟩) rfl (fun K hK => ?_) AllReadyH.nil
            · skip
              go_simp
              refine (CS.out _ (HH2.out.down B6)).mono ?_
              rintro e w7 ⟨⟨s, rfl⟩, ba⟩
              have B7 := B6.trans (ba.mono B6.size)
              have P7 := Aw.Has.down' P6 ba
              have Q7 := Aw.Has.down' Q6 ba
              have X7 := blk_below X6 ba
              clear B6 P6 Q6 X6 ba
              go_wp2_with fail
              refine hK.out _ _ (HSS.out _ (HH2.out.down B7)) (fun hHeld => ?_)
              clear hK K
              try simp only [Act.put, List.setIfInBounds_toArray, List.set_cons_zero, List.set_cons_succ]
              refine wpAnyH_take (i := 20) (oi := ⟨some 26, _, _, _, _, _⟩) (v := ?_) rfl (by kernel_rfl) (by kernel_rfl) (by kernel_rfl) (fun _ _ _ h => h) (Or.inl ⟨by kernel_rfl, ?_⟩) (by assumption) ?_
              rotate_left
              · intro w hSw; (try dsimp only at hSw); obtain ⟨q1, q2⟩ := hSw; go_simp; try with_reducible rfl
              rotate_left
              try simp only [Act.put, List.setIfInBounds_toArray, List.set_cons_zero, List.set_cons_succ]
              have x0 := X7.cellAt (i := 0) rfl
              have x1 := X7.cellAt (i := 1) rfl
              have x2 := X7.cellAt (i := 2) rfl
              have x3 := X7.cellAt (i := 3) rfl
              have x4 := X7.cellAt (i := 4) rfl
              have x5 := X7.cellAt (i := 5) rfl
              have x6 := X7.cellAt (i := 6) rfl
              have fR := X7.frozen
              refine wpAnyH_ready (rs := [22]) (by kernel_rfl) (by simp) ?_
              refine AllReadyH.cons (o := ⟨none, _, _, _, _, _⟩) rfl (fun K hK => ?_) AllReadyH.nil
              go_simp
              have XE := (((((((X7.set_ 0 (.slice A1 tr.length c1)).set_ 1 (.slice A2 xs.length c2)).set_ 2 (.int .i64 0)).set_ 3 (.int .i64 0)).set_ 4 (.slice none 0 0)).set_ 5 (.int .i64 b)).set_ 6 (.int .i64 s))
              have KE : Keeps (· = R) w7 (((((((w7.setCell ⟨R, 0, none⟩ (.slice A1 tr.length c1)).setCell ⟨R, 1, none⟩ (.slice A2 xs.length c2)).setCell ⟨R, 2, none⟩ (.int .i64 0)).setCell ⟨R, 3, none⟩ (.int .i64 0)).setCell ⟨R, 4, none⟩ (.slice none 0 0)).setCell ⟨R, 5, none⟩ (.int .i64 b)).setCell ⟨R, 6, none⟩ (.int .i64 s)) := ((((((((keep1 R w7).setCell ⟨R, 0, none⟩ (.inl rfl) _).setCell ⟨R, 1, none⟩ (.inl rfl) _).setCell ⟨R, 2, none⟩ (.inl rfl) _).setCell ⟨R, 3, none⟩ (.inl rfl) _).setCell ⟨R, 4, none⟩ (.inl rfl) _).setCell ⟨R, 5, none⟩ (.inl rfl) _).setCell ⟨R, 6, none⟩ (.inl rfl) _)
              have PE := P7.kept KE (fun g cur hg _ => own_ne X7 (by decide) g cur hg)
              have QE := Q7.kept KE (fun g cur hg _ => own_ne X7 (by decide) g cur hg)
              have BE := below_keeps B7 KE B7.size (fun i hi => by rw [hi]; exact hRl)
              clear X7 P7 Q7 B7 KE fR x0 x1 x2 x3 x4 x5 x6
              generalize (((((((w7.setCell ⟨R, 0, none⟩ (.slice A1 tr.length c1)).setCell ⟨R, 1, none⟩ (.slice A2 xs.length c2)).setCell ⟨R, 2, none⟩ (.int .i64 0)).setCell ⟨R, 3, none⟩ (.int .i64 0)).setCell ⟨R, 4, none⟩ (.slice none 0 0)).setCell ⟨R, 5, none⟩ (.int .i64 b)).setCell ⟨R, 6, none⟩ (.int .i64 s)) = wE at *
              refine hK.out _ _ (HSS.out _ (HH2.out.down BE)) (fun hHeld => ?_)
              clear hK K
              try simp only [Act.put, List.setIfInBounds_toArray, List.set_cons_zero, List.set_cons_succ]
              refine wpAnyH_done (by kernel_rfl) ?_ _
              go_wp2_with fail
              go_meet
              case rel =>
                rw [HXL.out] at QE XE
                have hds := HD.out.size
                exact ⟨R, _, _, b, s, rfl, PE, QE, XE, by omega, HD.out.trans (BE.mono hds)⟩
      · skip
        go_simp
        have ba := (Below.refl w3.heap.size w3).alloc (Nat.le_refl _) (.cells #[.slice none 0 0, .slice none 0 0, .int .i64 0, .int .i64 0, .slice none 0 0, .int .i64 0, .int .i64 0] 43)
        have X4 := Blk.new w3 43 [.slice none 0 0, .slice none 0 0, .int .i64 0, .int .i64 0, .slice none 0 0, .int .i64 0, .int .i64 0]
        have B4 := B3.trans (ba.mono B3.size)
        have P4 := Aw.Has.down' P3 ba
        obtain ⟨R, hR⟩ : ∃ R, w3.heap.size = R := ⟨_, rfl⟩
        have hRl : w2.heap.size ≤ R := by rw [← hR]; exact B3.size
        rw [hR] at X4 ⊢
        clear B3 P3 ba hR
        generalize w3.alloc (.cells #[.slice none 0 0, .slice none 0 0, .int .i64 0, .int .i64 0, .slice none 0 0, .int .i64 0, .int .i64 0] 43) = w4 at *
        refine hK.out _ _ (HSS.out _ (HH2.out.down B4)) (fun hHeld => ?_)
        clear hK K
        try simp only [Act.put, List.setIfInBounds_toArray, List.set_cons_zero, List.set_cons_succ]
        refine wpAnyH_ready (rs := [9]) (by kernel_rfl) (by simp) ?_
        refine AllReadyH.cons (o := ⟨some 15, _, _, _, _, _⟩) rfl (fun K hK => ?_) AllReadyH.nil
        · skip
          go_simp
          refine (CA.out _ (HH2.out.down B4)).mono ?_
          rintro e w5 ⟨A2, c2, rfl, Q5, ba⟩
          have B5 := B4.trans (ba.mono B4.size)
          have P5 := Aw.Has.down' P4 ba
          have X5 := blk_below X4 ba
          clear B4 P4 X4 ba
          go_wp2_with fail
          refine hK.out _ _ (HSS.out _ (HH2.out.down B5)) (fun hHeld => ?_)
          clear hK K
          try simp only [Act.put, List.setIfInBounds_toArray, List.set_cons_zero, List.set_cons_succ]
          refine wpAnyH_ready (rs := [14]) (by kernel_rfl) (by simp) ?_
          refine AllReadyH.cons (o := ⟨some 20, _, _, _, _, _⟩) rfl (fun K hK => ?_) AllReadyH.nil
          · skip
            go_simp
            refine (CB.out _ (HH2.out.down B5)).mono ?_
            rintro e w6 ⟨⟨b, rfl⟩, ba⟩
            have B6 := B5.trans (ba.mono B5.size)
            have P6 := Aw.Has.down' P5 ba
            have Q6 := Aw.Has.down' Q5 ba
            have X6 := blk_below X5 ba
            clear B5 P5 Q5 X5 ba
            go_wp2_with fail
            refine hK.out _ _ (HSS.out _ (HH2.out.down B6)) (fun hHeld => ?_)
            clear hK K
            try simp only [Act.put, List.setIfInBounds_toArray, List.set_cons_zero, List.set_cons_succ]
            refine wpAnyH_ready (rs := [19]) (by kernel_rfl) (by simp) ?_
            refine AllReadyH.cons (o := ⟨some 25, _, _, _, _, _⟩) rfl (fun K hK => ?_) AllReadyH.nil
            · skip
              go_simp
              refine (CS.out _ (HH2.out.down B6)).mono ?_
              rintro e w7 ⟨⟨s, rfl⟩, ba⟩
              have B7 := B6.trans (ba.mono B6.size)
              have P7 := Aw.Has.down' P6 ba
              have Q7 := Aw.Has.down' Q6 ba
              have X7 := blk_below X6 ba
              clear B6 P6 Q6 X6 ba
              go_wp2_with fail
              refine hK.out _ _ (HSS.out _ (HH2.out.down B7)) (fun hHeld => ?_)
              clear hK K
              try simp only [Act.put, List.setIfInBounds_toArray, List.set_cons_zero, List.set_cons_succ]
              refine wpAnyH_take (i := 20) (oi := ⟨some 26, _, _, _, _, _⟩) (v := ?_) rfl (by kernel_rfl) (by kernel_rfl) (by kernel_rfl) (fun _ _ _ h => h) (Or.inl ⟨by kernel_rfl, ?_⟩) (by assumption) ?_
              rotate_left
              · intro w hSw; (try dsimp only at hSw); obtain ⟨q1, q2⟩ := hSw; go_simp; try with_reducible rfl
              rotate_left
              try simp only [Act.put, List.setIfInBounds_toArray, List.set_cons_zero, List.set_cons_succ]
              have x0 := X7.cellAt (i := 0) rfl
              have x1 := X7.cellAt (i := 1) rfl
              have x2 := X7.cellAt (i := 2) rfl
              have x3 := X7.cellAt (i := 3) rfl
              have x4 := X7.cellAt (i := 4) rfl
              have x5 := X7.cellAt (i := 5) rfl
              have x6 := X7.cellAt (i := 6) rfl
              have fR := X7.frozen
              refine wpAnyH_ready (rs := [22]) (by kernel_rfl) (by simp) ?_
              refine AllReadyH.cons (o := ⟨none, _, _, _, _, _⟩) rfl (fun K hK => ?_) AllReadyH.nil
              go_simp
              have XE := (((((((X7.set_ 0 (.slice A1 tr.length c1)).set_ 1 (.slice A2 xs.length c2)).set_ 2 (.int .i64 0)).set_ 3 (.int .i64 0)).set_ 4 (.slice none 0 0)).set_ 5 (.int .i64 b)).set_ 6 (.int .i64 s))
              have KE : Keeps (· = R) w7 (((((((w7.setCell ⟨R, 0, none⟩ (.slice A1 tr.length c1)).setCell ⟨R, 1, none⟩ (.slice A2 xs.length c2)).setCell ⟨R, 2, none⟩ (.int .i64 0)).setCell ⟨R, 3, none⟩ (.int .i64 0)).setCell ⟨R, 4, none⟩ (.slice none 0 0)).setCell ⟨R, 5, none⟩ (.int .i64 b)).setCell ⟨R, 6, none⟩ (.int .i64 s)) := ((((((((keep1 R w7).setCell ⟨R, 0, none⟩ (.inl rfl) _).setCell ⟨R, 1, none⟩ (.inl rfl) _).setCell ⟨R, 2, none⟩ (.inl rfl) _).setCell ⟨R, 3, none⟩ (.inl rfl) _).setCell ⟨R, 4, none⟩ (.inl rfl) _).setCell ⟨R, 5, none⟩ (.inl rfl) _).setCell ⟨R, 6, none⟩ (.inl rfl) _)
              have PE := P7.kept KE (fun g cur hg _ => own_ne X7 (by decide) g cur hg)
              have QE := Q7.kept KE (fun g cur hg _ => own_ne X7 (by decide) g cur hg)
              have BE := below_keeps B7 KE B7.size (fun i hi => by rw [hi]; exact hRl)
              clear X7 P7 Q7 B7 KE fR x0 x1 x2 x3 x4 x5 x6
              generalize (((((((w7.setCell ⟨R, 0, none⟩ (.slice A1 tr.length c1)).setCell ⟨R, 1, none⟩ (.slice A2 xs.length c2)).setCell ⟨R, 2, none⟩ (.int .i64 0)).setCell ⟨R, 3, none⟩ (.int .i64 0)).setCell ⟨R, 4, none⟩ (.slice none 0 0)).setCell ⟨R, 5, none⟩ (.int .i64 b)).setCell ⟨R, 6, none⟩ (.int .i64 s)) = wE at *
              refine hK.out _ _ (HSS.out _ (HH2.out.down BE)) (fun hHeld => ?_)
              clear hK K
              try simp only [Act.put, List.setIfInBounds_toArray, List.set_cons_zero, List.set_cons_succ]
              refine wpAnyH_done (by kernel_rfl) ?_ _
              go_wp2_with fail
              go_meet
              case rel =>
                rw [HXL.out] at QE XE
                have hds := HD.out.size
                exact ⟨R, _, _, b, s, rfl, PE, QE, XE, by omega, HD.out.trans (BE.mono hds)⟩
    · skip
      go_simp
      have ba := (Below.refl w2.heap.size w2).alloc (Nat.le_refl _) (.cells #[.slice none 0 0, .slice none 0 0, .int .i64 0, .int .i64 0, .slice none 0 0, .int .i64 0, .int .i64 0] 43)
      have X3 := Blk.new w2 43 [.slice none 0 0, .slice none 0 0, .int .i64 0, .int .i64 0, .slice none 0 0, .int .i64 0, .int .i64 0]
      have B3 := B2.trans (ba.mono B2.size)
      obtain ⟨R, hR⟩ : ∃ R, w2.heap.size = R := ⟨_, rfl⟩
      have hRl : w2.heap.size ≤ R := by rw [← hR]; exact B2.size
      rw [hR] at X3 ⊢
      clear B2 ba hR
      generalize w2.alloc (.cells #[.slice none 0 0, .slice none 0 0, .int .i64 0, .int .i64 0, .slice none 0 0, .int .i64 0, .int .i64 0] 43) = w3 at *
      refine hK.out _ _ (HSS.out _ (HH2.out.down B3)) (fun hHeld => ?_)
      clear hK K
      try simp only [Act.put, List.setIfInBounds_toArray, List.set_cons_zero, List.set_cons_succ]
      refine wpAnyH_ready (rs := [4]) (by kernel_rfl) (by simp) ?_
      refine AllReadyH.cons (o := ⟨some 10, _, _, _, _, _⟩) rfl (fun K hK => ?_) AllReadyH.nil
      · skip
        go_simp
        refine (CC.out _ (HH2.out.down B3)).mono ?_
        rintro e w4 ⟨A1, c1, rfl, P4, ba⟩
        have B4 := B3.trans (ba.mono B3.size)
        have X4 := blk_below X3 ba
        clear B3 X3 ba
        go_wp2_with fail
        refine hK.out _ _ (HSS.out _ (HH2.out.down B4)) (fun hHeld => ?_)
        clear hK K
        try simp only [Act.put, List.setIfInBounds_toArray, List.set_cons_zero, List.set_cons_succ]
        refine wpAnyH_ready (rs := [9]) (by kernel_rfl) (by simp) ?_
        refine AllReadyH.cons (o := ⟨some 15, _, _, _, _, _⟩) rfl (fun K hK => ?_) AllReadyH.nil
        · skip
          go_simp
          refine (CA.out _ (HH2.out.down B4)).mono ?_
          rintro e w5 ⟨A2, c2, rfl, Q5, ba⟩
          have B5 := B4.trans (ba.mono B4.size)
          have P5 := Aw.Has.down' P4 ba
          have X5 := blk_below X4 ba
          clear B4 P4 X4 ba
          go_wp2_with fail
          refine hK.out _ _ (HSS.out _ (HH2.out.down B5)) (fun hHeld => ?_)
          clear hK K
          try simp only [Act.put, List.setIfInBounds_toArray, List.set_cons_zero, List.set_cons_succ]
          refine wpAnyH_ready (rs := [14]) (by kernel_rfl) (by simp) ?_
          refine AllReadyH.cons (o := ⟨some 20, _, _, _, _, _⟩) rfl (fun K hK => ?_) AllReadyH.nil
          · skip
            go_simp
            refine (CB.out _ (HH2.out.down B5)).mono ?_
            rintro e w6 ⟨⟨b, rfl⟩, ba⟩
            have B6 := B5.trans (ba.mono B5.size)
            have P6 := Aw.Has.down' P5 ba
            have Q6 := Aw.Has.down' Q5 ba
            have X6 := blk_below X5 ba
            clear B5 P5 Q5 X5 ba
            go_wp2_with fail
            refine hK.out _ _ (HSS.out _ (HH2.out.down B6)) (fun hHeld => ?_)
            clear hK K
            try simp only [Act.put, List.setIfInBounds_toArray, List.set_cons_zero, List.set_cons_succ]
            refine wpAnyH_ready (rs := [19]) (by kernel_rfl) (by simp) ?_
            refine AllReadyH.cons (o := ⟨some 25, _, _, _, _, _⟩) rfl (fun K hK => ?_) AllReadyH.nil
            · skip
              go_simp
              refine (CS.out _ (HH2.out.down B6)).mono ?_
              rintro e w7 ⟨⟨s, rfl⟩, ba⟩
              have B7 := B6.trans (ba.mono B6.size)
              have P7 := Aw.Has.down' P6 ba
              have Q7 := Aw.Has.down' Q6 ba
              have X7 := blk_below X6 ba
              clear B6 P6 Q6 X6 ba
              go_wp2_with fail
              refine hK.out _ _ (HSS.out _ (HH2.out.down B7)) (fun hHeld => ?_)
              clear hK K
              try simp only [Act.put, List.setIfInBounds_toArray, List.set_cons_zero, List.set_cons_succ]
              refine wpAnyH_take (i := 20) (oi := ⟨some 26, _, _, _, _, _⟩) (v := ?_) rfl (by kernel_rfl) (by kernel_rfl) (by kernel_rfl) (fun _ _ _ h => h) (Or.inl ⟨by kernel_rfl, ?_⟩) (by assumption) ?_
              rotate_left
              · intro w hSw; (try dsimp only at hSw); obtain ⟨q1, q2⟩ := hSw; go_simp; try with_reducible rfl
              rotate_left
              try simp only [Act.put, List.setIfInBounds_toArray, List.set_cons_zero, List.set_cons_succ]
              have x0 := X7.cellAt (i := 0) rfl
              have x1 := X7.cellAt (i := 1) rfl
              have x2 := X7.cellAt (i := 2) rfl
              have x3 := X7.cellAt (i := 3) rfl
              have x4 := X7.cellAt (i := 4) rfl
              have x5 := X7.cellAt (i := 5) rfl
              have x6 := X7.cellAt (i := 6) rfl
              have fR := X7.frozen
              refine wpAnyH_ready (rs := [22]) (by kernel_rfl) (by simp) ?_
              refine AllReadyH.cons (o := ⟨none, _, _, _, _, _⟩) rfl (fun K hK => ?_) AllReadyH.nil
              go_simp
              have XE := (((((((X7.set_ 0 (.slice A1 tr.length c1)).set_ 1 (.slice A2 xs.length c2)).set_ 2 (.int .i64 0)).set_ 3 (.int .i64 0)).set_ 4 (.slice none 0 0)).set_ 5 (.int .i64 b)).set_ 6 (.int .i64 s))
              have KE : Keeps (· = R) w7 (((((((w7.setCell ⟨R, 0, none⟩ (.slice A1 tr.length c1)).setCell ⟨R, 1, none⟩ (.slice A2 xs.length c2)).setCell ⟨R, 2, none⟩ (.int .i64 0)).setCell ⟨R, 3, none⟩ (.int .i64 0)).setCell ⟨R, 4, none⟩ (.slice none 0 0)).setCell ⟨R, 5, none⟩ (.int .i64 b)).setCell ⟨R, 6, none⟩ (.int .i64 s)) := ((((((((keep1 R w7).setCell ⟨R, 0, none⟩ (.inl rfl) _).setCell ⟨R, 1, none⟩ (.inl rfl) _).setCell ⟨R, 2, none⟩ (.inl rfl) _).setCell ⟨R, 3, none⟩ (.inl rfl) _).setCell ⟨R, 4, none⟩ (.inl rfl) _).setCell ⟨R, 5, none⟩ (.inl rfl) _).setCell ⟨R, 6, none⟩ (.inl rfl) _)
              have PE := P7.kept KE (fun g cur hg _ => own_ne X7 (by decide) g cur hg)
              have QE := Q7.kept KE (fun g cur hg _ => own_ne X7 (by decide) g cur hg)
              have BE := below_keeps B7 KE B7.size (fun i hi => by rw [hi]; exact hRl)
              clear X7 P7 Q7 B7 KE fR x0 x1 x2 x3 x4 x5 x6
              generalize (((((((w7.setCell ⟨R, 0, none⟩ (.slice A1 tr.length c1)).setCell ⟨R, 1, none⟩ (.slice A2 xs.length c2)).setCell ⟨R, 2, none⟩ (.int .i64 0)).setCell ⟨R, 3, none⟩ (.int .i64 0)).setCell ⟨R, 4, none⟩ (.slice none 0 0)).setCell ⟨R, 5, none⟩ (.int .i64 b)).setCell ⟨R, 6, none⟩ (.int .i64 s)) = wE at *
              refine hK.out _ _ (HSS.out _ (HH2.out.down BE)) (fun hHeld => ?_)
              clear hK K
              try simp only [Act.put, List.setIfInBounds_toArray, List.set_cons_zero, List.set_cons_succ]
              refine wpAnyH_done (by kernel_rfl) ?_ _
              go_wp2_with fail
              go_meet
              case rel =>
                rw [HXL.out] at QE XE
                have hds := HD.out.size
                exact ⟨R, _, _, b, s, rfl, PE, QE, XE, by omega, HD.out.trans (BE.mono hds)⟩
  case rest =>
    obtain ⟨R, v1, v2, b, s, rfl, P, Q, X, hR, B⟩ := hcut
    obtain ⟨A1, c1, e1⟩ := P.shape
    subst e1
    obtain ⟨A2, c2, e2⟩ := Q.shape
    subst e2
    have CS := sums_is (H1.out.down B) hn HNM.out
    obtain ⟨E, hE⟩ : ∃ E, Led.earn (rowsTo js xs js.length) = E := ⟨_, rfl⟩
    obtain ⟨L, hL⟩ : ∃ L, Led.loss (rowsTo js xs js.length) = L := ⟨_, rfl⟩
    rw [hE, hL] at CS
    have HE := Lib.hid hE
    have HL := Lib.hid hL
    have HP := Lib.hid P
    have HQ := Lib.hid Q
    have HX := Lib.hid X
    have HR := Lib.hid hR
    have HB := Lib.hid B
    clear P Q X hR B hE hL
    go_wp2_with fail
    refine CS.mono ?_
    rintro e w8 ⟨rfl, b8⟩
    have X8 := blk_below HX.out b8
    have f8 := X8.frozen
    have d2 := X8.cellAt (i := 2) rfl
    have d3 := X8.cellAt (i := 3) rfl
    have HX8 := Lib.hid X8
    have HP8 := Lib.hid (Aw.Has.down' HP.out b8)
    have HQ8 := Lib.hid (Aw.Has.down' HQ.out b8)
    have HB8 := Lib.hid (HB.out.trans (b8.mono HB.out.size))
    have hOl := HOL.out
    have hRk : R ≠ k := Blk.ne_ HX8.out (H1.out.down HB8.out).K (by decide)
    have KE : Keeps (· = R) w8 ((w8.setCell ⟨R, 2, none⟩ (.int .i64 E)).setCell ⟨R, 3, none⟩ (.int .i64 L)) := ((keep1 R w8).setCell _ (.inl rfl) _).setCell _ (.inl rfl) _
    have k1 := (H1.out.down HB8.out).K.cellAt (i := 1) rfl
    have k1' : ((w8.setCell ⟨R, 2, none⟩ (.int .i64 E)).setCell ⟨R, 3, none⟩ (.int .i64 L)).cell? ⟨k, 1, none⟩ = some (.slice Ay 1 cw) := by
      rw [World.cell?_of_block (a := ⟨k, 1, none⟩) (KE.block k (World.block_lt_of_cell? _ _ k1) (fun e => hRk e.symm))]; exact k1
    have HKE := Lib.hid KE
    clear X8 b8 CS HX HP HQ HB k1 KE hRk
    go_upto_region 3 with fail
    have X9 := (HX8.out.set_ 2 (.int .i64 E)).set_ 3 (.int .i64 L)
    have P9 := HP8.out.kept HKE.out (fun g cur hg _ => own_ne HX8.out (by decide) g cur hg)
    have Q9 := HQ8.out.kept HKE.out (fun g cur hg _ => own_ne HX8.out (by decide) g cur hg)
    have B9 := below_keeps HB8.out HKE.out HB8.out.size (fun i hi => by rw [hi]; exact HR.out)
    clear f8 d2 d3 HX8 HP8 HQ8 HB8 HKE
    generalize (w8.setCell ⟨R, 2, none⟩ (.int .i64 E)).setCell ⟨R, 3, none⟩ (.int .i64 L) = w9 at *
    have HX9 := Lib.hid X9
    have HP9 := Lib.hid P9
    have HQ9 := Lib.hid Q9
    have HB9 := Lib.hid B9
    clear X9 P9 Q9 B9
    go_wp2_with fail
    have HLEN := Lib.hid (show (Win.brk m kk (mets js xs)).length ≤ 12 by have := Win.brk_len m kk (mets js xs); rw [mets_len] at this; omega)
    generalize hN : (Win.brk m kk (mets js xs)).length = N at *
    have HNN := Lib.hid hN
    clear hN
    have HK9 := Lib.hid (H1.out.down HB9.out)
    have HW9 := Lib.hid (Rob.Has.down HWC.out HB9.out)
    have HRl := Lib.hid HX9.out.lt
    obtain ⟨gw, ow, hAw, hcw⟩ := HW9.out.at_ (by omega)
    have HCW := Lib.hid (show w9.cell? ⟨gw, ow, none⟩ = some (.string ⟨#[97]⟩) ∧ w9.cell? ⟨gw, ow + 1, none⟩ = some (.int .i64 (m : Int)) ∧ w9.cell? ⟨gw, ow + 2, none⟩ = some (.int .i64 (kk : Int)) from ⟨hcw 0 _ rfl, hcw 1 _ rfl, hcw 2 _ rfl⟩)
    obtain ⟨is, hIs, zs0, zs1, zs2⟩ := infoS
    subst hAw
    clear hcw
    go_loopw [39] (fun v wx => (v = .int .i64 0 ∧ w9 = wx) ∨ (v = .int .i64 1 ∧ ∃ vb, Blk wx R 43 [.slice A1 tr.length c1, .slice A2 js.length c2, .int .i64 E, .int .i64 L, vb, .int .i64 b, .int .i64 s] ∧ wx.ownsRow w9.heap.size 9 1 vb N (List.replicate N (.string ⟨#[97]⟩)) ∧ Keeps (fun b => b = R ∨ w9.heap.size ≤ b) w9 wx)) (fun v _ => 1 - (intOf v).toNat)
    case atStart => exact .inl ⟨rfl, rfl⟩
    case round =>
      rcases hrel with ⟨rfl, rfl⟩ | ⟨rfl, vb, XR, OB, KK⟩
      · have e0 := HCW.out.1
        have e1 := HCW.out.2.1
        have e2 := HCW.out.2.2
        have X := Blk.new w9 58 [.string ⟨#[97]⟩, .int .i64 (m : Int), .int .i64 (kk : Int)]
        have ka := (Keeps.refl (fun b => b = R ∨ w9.heap.size ≤ b) w9).alloc (.cells #[.string ⟨#[97]⟩, .int .i64 (m : Int), .int .i64 (kk : Int)] 58)
        have ba := (Below.refl w9.heap.size w9).alloc (Nat.le_refl _) (.cells #[.string ⟨#[97]⟩, .int .i64 (m : Int), .int .i64 (kk : Int)] 58)
        have HXa := Lib.hid X
        have HKa := Lib.hid ka
        have HKna := Lib.hid (HK9.out.down ba)
        have HRa := Lib.hid (blk_below HX9.out ba)
        clear X ka ba
        go_upto_region 6 with fail
        simp only [List.toArray] at HXa
        generalize w9.alloc (.cells #[.string ⟨#[97]⟩, .int .i64 (m : Int), .int .i64 (kk : Int)] 58) = wa at *
        have x0 : wa.cell? ⟨w9.heap.size, 0, none⟩ = some (.string ⟨#[97]⟩) := HXa.out.cellAt (i := 0) rfl
        have x1 : wa.cell? ⟨w9.heap.size, 1, none⟩ = some (.int .i64 (m : Int)) := HXa.out.cellAt (i := 1) rfl
        have x2 : wa.cell? ⟨w9.heap.size, 2, none⟩ = some (.int .i64 (kk : Int)) := HXa.out.cellAt (i := 2) rfl
        have CB := broken_is HKna.out hn HNA.out HKM.out.1 HKM.out.2.1 HKM.out.2.2
        rw [HNN.out] at CB
        clear e0 e1 e2
        go_upto_region 7 with (go_at_call 46; refine CB.mono ?_; rintro e wb ⟨rfl, bb⟩)
        have HXb := Lib.hid (blk_below HXa.out bb)
        have HRb := Lib.hid (blk_below HRa.out bb)
        have HKb := Lib.hid (HKa.out.trans (Keeps.of_below (S := fun _ => False) bb) (fun _ _ h => h.elim))
        have HXR := Lib.hid (show w9.heap.size ≠ R ∧ w9.heap.size < wb.heap.size from ⟨fun e => by have := HRl.out; omega, HXb.out.lt⟩)
        clear x0 x1 x2 bb CB HXa HRa HKa HKna
        go_loopw [46] (fun v wx => ∃ (q : Nat) (vb : Value), q ≤ N ∧ v = .int .i64 (q : Int) ∧ Blk wx R 43 [.slice A1 tr.length c1, .slice A2 js.length c2, .int .i64 E, .int .i64 L, vb, .int .i64 b, .int .i64 s] ∧ wx.ownsRow wb.heap.size 9 1 vb q (List.replicate q (.string ⟨#[97]⟩)) ∧ Blk wx w9.heap.size 58 [.string ⟨#[97]⟩, .int .i64 (m : Int), .int .i64 (kk : Int)] ∧ wb.heap.size ≤ wx.heap.size ∧ Keeps (fun b => b = R ∨ w9.heap.size ≤ b) w9 wx) (fun v _ => N - (intOf v).toNat)
        case atStart => exact ⟨0, .slice none 0 0, by omega, rfl, HRb.out, ⟨rfl, .inl ⟨rfl, rfl⟩⟩, HXb.out, Nat.le_refl _, HKb.out⟩
        case round =>
          clear HXb HRb HKb
          obtain ⟨q, vb, hq, rfl, XR, OB, XW, hsz, KK⟩ := hrel
          obtain ⟨AB, cB, ev⟩ := own_shape OB
          subst ev
          by_cases hlt : q < N
          · have hlti : (q : Int) < (N : Int) := by omega
            have hq0 : (0 : Int) ≤ (q : Int) := by omega
            have hq1 : (q : Int) + 1 ≤ 9223372036854775807 := by have := HLEN.out; omega
            have x0 : wr.cell? ⟨w9.heap.size, 0, none⟩ = some (.string ⟨#[97]⟩) := XW.cellAt (i := 0) rfl
            have r4 : wr.cell? ⟨R, 4, none⟩ = some (.slice AB q cB) := XR.cellAt (i := 4) rfl
            have ba := (Below.refl wr.heap.size wr).alloc (Nat.le_refl _) (.cells #[.string ⟨#[97]⟩] 9)
            have O3 := own_below OB ba
            have hsz3 := Nat.le_trans hsz ba.size
            have hnR := Lib.hid (own_type_ne OB XR (by decide))
            have hnX := Lib.hid (own_type_ne OB XW (by decide))
            have HGO := Lib.hid (own_block_lt OB)
            have HXR2 := Lib.hid (XR.alloc (.cells #[.string ⟨#[97]⟩] 9))
            have HXW2 := Lib.hid (XW.alloc (.cells #[.string ⟨#[97]⟩] 9))
            have HKK := Lib.hid (KK.alloc (.cells #[.string ⟨#[97]⟩] 9))
            have HSZ := Lib.hid hsz3
            have hlen := HLEN.out
            clear XR OB XW hsz KK ba
            go_wp2_with (at_builtin; refine wpList_append_has rfl (.tmp 49) (.tmp 52) 41 rfl is _ 16 Tryz.underlying41 hIs zs0 zs1 zs2 rfl (by decide) rfl O3 (some ⟨wr.heap.size, 0, none⟩) 1 1 [.string ⟨#[97]⟩] rfl (Has.box wr 9 1 1 [.string ⟨#[97]⟩] rfl (by unfold maxLen; omega)) (fun u hu => by simp at hu; subst hu; rfl) (by unfold maxLen; omega) (by omega) hsz3 ?_; intro v6 w6 own6 g6 at6; have BP6 := HXR2.out.grown g6 hnR.out; have f6 := BP6.frozen; have d6 := BP6.cellAt (i := 4) rfl; obtain ⟨A6, c6, hv6⟩ := own_shape own6; subst hv6; have OWN6 := Lib.hid own6; have HP6 := Lib.hid BP6; have HW6 := Lib.hid (HXW2.out.grown g6 hnX.out); have KG := Lib.hid (keeps_grown HKK.out g6 (fun g hg => .inr (by have h1 := (HGO.out g (ob_mem.2 hg)).1; have h2 := HXR.out.2; omega))); have GS := Lib.hid g6.size; clear own6 g6 at6 BP6)
            go_roundw
            case rel =>
              have KS := (keep1 R w6).setCell ⟨R, 4, none⟩ (.inl rfl) (.slice A6 (q + 1) c6)
              refine ⟨q + 1, .slice A6 (q + 1) c6, by omega, by simp, HP6.out.set_ 4 _, ?_, HW6.out.kept KS HXR.out.1, ?_, KG.out.setCell ⟨R, 4, none⟩ (.inl (.inl rfl)) _⟩
              · rw [List.replicate_succ']
                exact own_kept OWN6.out KS (fun g _ _ hg e => own_type_ne OWN6.out HP6.out (by decide) (by rw [hg, e]))
              · exact Nat.le_trans (Nat.le_trans HSZ.out GS.out) KS.size
            case measure => simp [intOf]; omega
          · have hlti : ¬ (q : Int) < (N : Int) := by omega
            have hqN : q = N := by omega
            subst hqN
            have HXR3 := Lib.hid XR
            have HOB3 := Lib.hid (own_base OB (Nat.le_of_lt HXR.out.2))
            have HKK3 := Lib.hid KK
            clear XR OB XW hsz KK
            go_wp2_with fail
            go_roundw
            case rel => exact .inr ⟨by simp, _, HXR3.out, HOB3.out, HKK3.out⟩
            case measure => simp [intOf]
      · obtain ⟨AB, cB, ev⟩ := own_shape OB
        subst ev
        have HBr := Lib.hid (below_keeps HB9.out KK HB9.out.size (fun i hi => by rcases hi with rfl | hi; exact HR.out; exact Nat.le_trans HB9.out.size hi))
        have HQr := Lib.hid (HQ9.out.kept KK (fun g cur hg _ hS => by
          rcases hS with e | e
          · exact own_ne HX9.out (by decide) g cur hg e
          · have := (Array.getElem?_eq_some_iff.1 hg).1; omega))
        have XO := blk_below HXO.out HBr.out
        have fo := XO.frozen
        have o0 := XO.cellAt (i := 0) rfl
        have o1 := XO.cellAt (i := 1) rfl
        have o2 := XO.cellAt (i := 2) rfl
        have o3 := XO.cellAt (i := 3) rfl
        have o4 := XO.cellAt (i := 4) rfl
        have o5 := XO.cellAt (i := 5) rfl
        have o6 := XO.cellAt (i := 6) rfl
        have r0 := XR.cellAt (i := 0) rfl
        have r1 := XR.cellAt (i := 1) rfl
        have r2 := XR.cellAt (i := 2) rfl
        have r3 := XR.cellAt (i := 3) rfl
        have r4 := XR.cellAt (i := 4) rfl
        have r5 := XR.cellAt (i := 5) rfl
        have r6 := XR.cellAt (i := 6) rfl
        have HXB := Lib.hid XO
        clear XO XR OB KK k1'
        go_wp2_with fail
        have XE := ((((((HXB.out.set_ 0 (.slice A1 tr.length c1)).set_ 1 (.slice A2 js.length c2)).set_ 2 (.int .i64 E)).set_ 3 (.int .i64 L)).set_ 4 (.slice AB N cB)).set_ 5 (.int .i64 b)).set_ 6 (.int .i64 s)
        have KE : Keeps (· = w.heap.size) wr (((((((wr.setCell ⟨w.heap.size, 0, none⟩ (.slice A1 tr.length c1)).setCell ⟨w.heap.size, 1, none⟩ (.slice A2 js.length c2)).setCell ⟨w.heap.size, 2, none⟩ (.int .i64 E)).setCell ⟨w.heap.size, 3, none⟩ (.int .i64 L)).setCell ⟨w.heap.size, 4, none⟩ (.slice AB N cB)).setCell ⟨w.heap.size, 5, none⟩ (.int .i64 b)).setCell ⟨w.heap.size, 6, none⟩ (.int .i64 s)) :=
          ((((((((keep1 w.heap.size wr).setCell _ (.inl rfl) _).setCell _ (.inl rfl) _).setCell _ (.inl rfl) _).setCell _ (.inl rfl) _).setCell _ (.inl rfl) _).setCell _ (.inl rfl) _).setCell _ (.inl rfl) _)
        have QE := HQr.out.kept KE (fun g cur hg _ => own_ne HXB.out (by decide) g cur hg)
        have hB := below_keeps (HBO.out.trans (HBr.out.mono HBO.out.size)) KE (Nat.le_trans HBO.out.size HBr.out.size) (fun i hi => Nat.le_of_eq hi.symm)
        clear fo o0 o1 o2 o3 o4 o5 o6 r0 r1 r2 r3 r4 r5 r6 HXB KE
        generalize ((((((wr.setCell ⟨w.heap.size, 0, none⟩ (.slice A1 tr.length c1)).setCell ⟨w.heap.size, 1, none⟩ (.slice A2 js.length c2)).setCell ⟨w.heap.size, 2, none⟩ (.int .i64 E)).setCell ⟨w.heap.size, 3, none⟩ (.int .i64 L)).setCell ⟨w.heap.size, 4, none⟩ (.slice AB N cB)).setCell ⟨w.heap.size, 5, none⟩ (.int .i64 b)).setCell ⟨w.heap.size, 6, none⟩ (.int .i64 s) = wE at *
        have XE' : Blk wE w.heap.size 43 [.slice A1 tr.length c1, .slice A2 js.length c2, .int .i64 E, .int .i64 L, .slice AB N cB, .int .i64 b, .int .i64 s] := XE
        have r0 := XE'.cellAt (i := 0) rfl
        have r1 := XE'.cellAt (i := 1) rfl
        have r2 := XE'.cellAt (i := 2) rfl
        have r3 := XE'.cellAt (i := 3) rfl
        have r4 := XE'.cellAt (i := 4) rfl
        have r5 := XE'.cellAt (i := 5) rfl
        have r6 := XE'.cellAt (i := 6) rfl
        refine bodyPost_ret (v := .agg #[.slice A1 tr.length c1, .slice A2 js.length c2, .int .i64 E, .int .i64 L, .slice AB N cB, .int .i64 b, .int .i64 s]) (by simp [results, Tryz.results18, go_sem, r0, r1, r2, r3, r4, r5, r6]) rfl ?_
        rw [HNN.out]
        exact ⟨A1, _, c1, A2, c2, E, L, AB, cB, b, s, rfl, QE, hB⟩
end
end Kw
end Go.Proofs.YtbgiegecfapmlaaGreatDoor

namespace Go.Proofs.YtbgiegecfapmlaaGreatDoor
open Go.RowKit
set_option linter.unusedVariables false
set_option linter.unusedSimpArgs false
namespace Kw
open Rob (own_below own_block_lt ob_mem blk_below below_drew J own_base fc iv Goods nv)
open Job (jc jv)
open Kg (KnG)
/-- A way that a kernel takes, one monitor beside it. -/
structure NewW (PR : Value) : Prop where
  new : ∀ {w : World} {A : Option Addr} {c g m k : Nat} {js : List J}, Tabs w → Row jc 8 w A js.length js → (∀ a, A = some a → ∃ b off, a = ⟨b, off, none⟩) → (∀ a, A = some a → a.block < w.heap.size) → Goods js → Job.all js = true → js.length ≤ 12 →
  Blk w g 58 (wc m k) → 1 ≤ k → k ≤ 64 → m ≤ k →
  Calls Tryz.prog 17 #[PR, .slice A js.length c, .slice (some ⟨g, 0, none⟩) 1 1] w fun e w' => ∃ (kk : Nat) (Aj : Option Addr) (cj : Nat) (Ax : Option Addr) (cx : Nat) (tv : Value) (bp gg : Nat) (tr : List Int) (xs : List Fa), e = .returned (.tuple #[.pointer (some ⟨kk, 0, none⟩), .int .i64 0]) ∧ KnG w' kk js tr xs 0 Aj cj (.slice Ax 1 cx) tv bp gg ∧ Has w' 58 3 (.slice Ax 1 cx) 1 (wc m k) ∧ tr.length ≤ 1000000 ∧ Below w.heap.size w w'
def WQ (m k : Nat) (v : Value) (W : World) : Prop := ∃ Ax cx, v = .slice Ax 1 cx ∧ Has W 58 3 v 1 (wc m k)
theorem new_of {PR : Value} (C1 : ∀ w, Calls Tryz.prog 23 #[PR] w fun e w' => e = .returned (.bool true) ∧ Below w.heap.size w w')
    (C2 : ∀ W, Calls Tryz.prog 35 #[PR] W fun e w' => e = .returned (.bool true) ∧ w' = W)
    (C5 : ∀ {w : World} {A : Option Addr} {c : Nat} {js : List J}, Tabs w → Row jc 8 w A js.length js → (∀ a, A = some a → ∃ b off, a = ⟨b, off, none⟩) → (∀ a, A = some a → a.block < w.heap.size) → Goods js → Job.all js = true → js.length ≤ 12 → Kg.Plays PR A c js Kg.Short w) : NewW PR := by
  refine ⟨?_⟩
  intro w A c g m k js T R hA hAl hg hall hn hW h1 h2 hm
  refine (Kg.new_g (P := Kg.Short) (WQ := WQ m k) (C1 w) C2 (fun W hb => watches_one (blk_below hW hb) h1 h2 hm) (fun W hb => C5 (T.below hb) (Row.below R hb) hA (fun a ha => Nat.lt_of_lt_of_le (hAl a ha) hb.size) hg hall hn)
    (fun W hb => (clone_one (blk_below hW hb)).mono fun e w' ⟨Ax, nx, cx, he, hnx, hh, bb⟩ => ⟨Ax, nx, cx, he, fun W2 b2 => ⟨Ax, cx, by rw [hnx], Rob.Has.down hh b2⟩, bb⟩) T R hA hg hall hn).mono ?_
  rintro e w' ⟨kk, Aj, cj, wv, tv, bp, gg, tr, fs, he, hK, hP, hwv, hfl, _, _, hB⟩
  obtain ⟨Ax, cx, rfl, hh⟩ := hwv
  exact ⟨kk, Aj, cj, Ax, cx, tv, bp, gg, tr, _, he, hK, hh, hP, hB⟩
theorem new_r : NewW Aw.PR := new_of Aw.good_r Aw.jobs_r (fun T R hA _ hg hall hn => Kg.plays_r T R hA hg hall hn)
theorem new_d : NewW Dv.PR := new_of Dv.good_r Dv.jobs_r (fun T R hA hAl hg hall hn => Kg.plays_d T R hA hAl hg hall hn)
/-- How many windows have too few, of those that end ahead of a place. -/
theorem brk_next (m k : Nat) (ys : List Bool) (i : Nat) : (Win.brkN m k ys (i + 1)).length = (Win.brkN m k ys i).length + if k ≤ i + 1 ∧ Win.W k (ys.take (i + 1)) < m then 1 else 0 := by
  simp only [Win.brkN]
  rw [List.length_append]
  split <;> rfl
/-- How many are met of a window, up to a place. -/
theorem cnt_next {ys : List Bool} {d q : Nat} {y : Bool} (hd : d ≤ q) (hy : ys[q]? = some y) : Win.cnt ((ys.take (q + 1)).drop d) = Win.cnt ((ys.take q).drop d) + y.toNat := by
  have hq : q < ys.length := (List.getElem?_eq_some_iff.1 hy).1
  rw [take_next hy, List.drop_append_of_le_length (by rw [List.length_take]; omega), Win.cnt_snoc]
theorem cnt_zero (ys : List Bool) (d : Nat) : Win.cnt ((ys.take d).drop d) = 0 := by
  rw [List.drop_of_length_le (by rw [List.length_take]; omega)]
  rfl
/-- The job, named. -/
def nmd (x : J) : J := { x with nm := ⟨#[97]⟩ }
def nmds (js : List J) : List J := js.map nmd
theorem nmds_len (js : List J) : (nmds js).length = js.length := by unfold nmds; simp
theorem nm_a : Nm.good ⟨#[97]⟩ = true := by decide
theorem nmd_good {x : J} (h : Job.good x = true) : Job.good (nmd x) = true := by
  unfold Job.good at *
  simp only [Bool.and_eq_true] at *
  exact ⟨⟨⟨nm_a, h.1.1.2⟩, h.1.2⟩, h.2⟩
theorem nmds_all {js : List J} (h : Job.all js = true) : Job.all (nmds js) = true := by
  unfold Job.all at *
  rw [nmds_len]
  simp only [Bool.and_eq_true] at *
  refine ⟨h.1, ?_⟩
  unfold nmds
  rw [List.all_map]
  rw [List.all_eq_true] at *
  exact fun x hx => nmd_good (h.2 x hx)
theorem nmds_goods {js : List J} (h : Job.all js = true) : Goods (nmds js) := by
  intro y hy
  obtain ⟨x, hx, rfl⟩ := List.mem_map.1 hy
  unfold Job.all at h
  simp only [Bool.and_eq_true, List.all_eq_true] at h
  exact ⟨nmd_good (h.2 x hx), by show (1 : Nat) < _; omega⟩
theorem nmds_nm {js : List J} : ∀ x ∈ nmds js, x.nm = ⟨#[97]⟩ := by
  intro y hy
  obtain ⟨x, hx, rfl⟩ := List.mem_map.1 hy
  rfl
end Kw
end Go.Proofs.YtbgiegecfapmlaaGreatDoor

namespace Go.Proofs.YtbgiegecfapmlaaGreatDoor
open Go.RowKit
set_option linter.unusedVariables false
set_option linter.unusedSimpArgs false
namespace Kw
open Rob (own_below own_block_lt ob_mem blk_below below_drew J own_base fc iv Goods nv)
open Job (jc jv)
open Kg (KnG)
open Dl (ord by_is ord_mem ord_len)
open Aw (awake_is fine_all own_addr)
theorem w64 (x : Int) (h : -1000 ≤ x ∧ x ≤ 100000) : IntKind.i64.wrap x = x ∧ wrap64 x = x := by
  refine ⟨?_, ?_⟩
  · rw [IntKind.wrap_i64]; omega
  · unfold wrap64; omega
theorem brkN_le (m k i : Nat) (ys : List Bool) (h : i ≤ 12) : (Win.brkN m k ys i).length ≤ 12 := Nat.le_trans (Win.brkN_len m k ys i) h
theorem brk_end {m k i : Nat} {ys : List Bool} (h1 : ys.length ≤ i) (h2 : i ≤ ys.length ∨ i = k - 1) (hk : 1 ≤ k) : (Win.brkN m k ys i).length = (Win.brk m k ys).length := by
  by_cases h : i = ys.length
  · rw [h]; rfl
  · have hi : i = k - 1 := by omega
    unfold Win.brk
    rw [Win.brkN_short m k ys i (by omega), Win.brkN_short m k ys ys.length (by omega)]
set_option maxRecDepth 100000 in
set_option maxHeartbeats 8000000 in
theorem watch_is {PR : Value} (NW : NewW PR) {rb : Bool} (hway : ∀ W, Calls Tryz.prog 10 #[.bool rb, .int .i64 2, .int .i64 1] W fun e w' => e = .returned PR ∧ w' = W)
    {w : World} {A : Option Addr} {c : Nat} {js : List J} {m k : Int} (T : Tabs w) (R : Row jc 8 w A js.length js) :
    Calls Tryz.prog 5 #[.bool rb, .slice A js.length c, .int .i64 m, .int .i64 k] w fun e w' => e = .returned (.bool true) ∧ Below w.heap.size w w' := by
  obtain ⟨i0, hI0, hz0, hz1, hz2⟩ := Rob.infoJ
  have CA := awake_is w T
  have HT := Lib.hid T
  have HR := Lib.hid R
  have HW := Lib.hid hway
  have HNW := Lib.hid NW
  clear T R hway NW
  go_enter Tryz.func5, Tryz.ntmps5
  go_upto_region 3 with (go_at_call 7; refine CA.mono ?_; rintro e w1 ⟨rfl, b1⟩)
  have CG := Job.fine_any (c := c) (HT.out.below b1) (Row.below HR.out b1)
  have HB1 := Lib.hid b1
  clear CA b1
  by_cases hf : Job.fine js = true
  · rw [hf] at CG
    obtain ⟨hn, hall, hnm⟩ := fine_all hf
    have HALL := Lib.hid hall
    have HN := Lib.hid hn
    clear hf hall hn hnm
    by_cases hk1 : k < 1
    · have q1 : decide (k < 1) = true := decide_eq_true hk1
      go_wp2_with (go_at_call 8; refine CG.mono ?_; rintro e w2 ⟨rfl, b2⟩)
      go_ret
      exact ⟨rfl, HB1.out.trans (b2.mono HB1.out.size)⟩
    · have q1 : decide (k < 1) = false := decide_eq_false hk1
      by_cases hk2 : 8 < k
      · have q2 : decide (8 < k) = true := decide_eq_true hk2
        go_wp2_with (go_at_call 8; refine CG.mono ?_; rintro e w2 ⟨rfl, b2⟩)
        go_ret
        exact ⟨rfl, HB1.out.trans (b2.mono HB1.out.size)⟩
      · have q2 : decide (8 < k) = false := decide_eq_false hk2
        by_cases hm1 : m < 0
        · have q3 : decide (m < 0) = true := decide_eq_true hm1
          go_wp2_with (go_at_call 8; refine CG.mono ?_; rintro e w2 ⟨rfl, b2⟩)
          go_ret
          exact ⟨rfl, HB1.out.trans (b2.mono HB1.out.size)⟩
        · have q3 : decide (m < 0) = false := decide_eq_false hm1
          by_cases hm2 : k < m
          · have q4 : decide (k < m) = true := decide_eq_true hm2
            go_wp2_with (go_at_call 8; refine CG.mono ?_; rintro e w2 ⟨rfl, b2⟩)
            go_ret
            exact ⟨rfl, HB1.out.trans (b2.mono HB1.out.size)⟩
          · have q4 : decide (k < m) = false := decide_eq_false hm2
            obtain ⟨kk, rfl⟩ := Int.eq_ofNat_of_zero_le (show 0 ≤ k by omega)
            obtain ⟨mm, rfl⟩ := Int.eq_ofNat_of_zero_le (show 0 ≤ m by omega)
            have q5 : decide (kk < mm) = false := decide_eq_false (by omega)
            have HKM := Lib.hid (show 1 ≤ kk ∧ kk ≤ 8 ∧ mm ≤ kk from ⟨by omega, by omega, by omega⟩)
            go_upto_region 5 with (go_at_call 8; refine CG.mono ?_; rintro e w2 ⟨rfl, b2⟩)
            have HB2 := Lib.hid (HB1.out.trans (b2.mono HB1.out.size))
            clear CG b2 HB1 q1 q2 q3 q4 q5 hk1 hk2 hm1 hm2
            go_wp2_with fail
            go_loopw [9, 10] (fun v i wr => ∃ n : Nat, n ≤ js.length ∧ i = .int .i64 (n : Int) ∧ Below w.heap.size w wr ∧ wr.ownsRow w.heap.size 36 8 v n ((nmds (js.take n)).flatMap jc)) (fun _ i _ => js.length - (intOf i).toNat)
            case atStart => exact ⟨0, by omega, rfl, HB2.out, ⟨by simp [nmds], .inl ⟨rfl, rfl⟩⟩⟩
            case round =>
              clear HB2
              obtain ⟨n, hn, hi, B, O⟩ := hrel
              subst hi
              obtain ⟨AS, cS, hv⟩ := own_shape O
              subst hv
              by_cases hkn : n < js.length
              · have hlt : (n : Int) < (js.length : Int) := by omega
                have hk0 : (0 : Int) ≤ (n : Int) := by omega
                have hk1 : (n : Int) + 1 ≤ 9223372036854775807 := by have := HN.out; omega
                have hr := Row.below HR.out B
                obtain ⟨b, off, x, hA, hx, hb, c0, c1, c2, c3, c4, c5, c6, c7⟩ := Job.cells8 hr hkn
                subst hA
                have XB : Blk (wr.alloc (.cells #[.string x.nm, .int .i64 x.rel, .int .i64 x.dl, .int .i64 x.bud, .int .i64 x.act, .int .i64 x.val, .int .i64 x.cln, .bool x.hard] 36)) wr.heap.size 36 (jc x) := Blk.new wr 36 (jc x)
                have ba := (Below.refl wr.heap.size wr).alloc (Nat.le_refl _) (.cells #[.string x.nm, .int .i64 x.rel, .int .i64 x.dl, .int .i64 x.bud, .int .i64 x.act, .int .i64 x.val, .int .i64 x.cln, .bool x.hard] 36)
                have B3 := B.trans (ba.mono B.size)
                have O3 := own_below O ba
                have hge : w.heap.size ≤ wr.heap.size := B.size
                have hOX : (Value.slice AS n cS).ownBlock ≠ some wr.heap.size := fun e => by have := (own_block_lt O _ (ob_mem.2 e)).2; omega
                have HXB := Lib.hid XB
                have HB3 := Lib.hid B3
                have HO3 := Lib.hid O3
                have HGE := Lib.hid hge
                have HOX := Lib.hid hOX
                have HX := Lib.hid hx
                clear XB ba B3 O3 hge hOX hx B O hr hb
                go_upto_region 10 with fail
                generalize wr.alloc (.cells #[.string x.nm, .int .i64 x.rel, .int .i64 x.dl, .int .i64 x.bud, .int .i64 x.act, .int .i64 x.val, .int .i64 x.cln, .bool x.hard] 36) = w3 at *
                generalize wr.heap.size = X at *
                clear c0 c1 c2 c3 c4 c5 c6 c7
                have f3 := HXB.out.frozen
                have s3 : w3.cell? ⟨X, 0, none⟩ = some (.string x.nm) := HXB.out.cellAt (i := 0) rfl
                go_upto_region 11 with fail
                have kk1 := (keep1 X w3).setCell ⟨X, 0, none⟩ (.inl rfl) (.string ⟨#[97]⟩)
                have X4 : Blk (w3.setCell ⟨X, 0, none⟩ (.string ⟨#[97]⟩)) X 36 (jc (nmd x)) := HXB.out.set_ 0 (.string ⟨#[97]⟩)
                have O4 := own_kept HO3.out kk1 (fun g cur _ hg e => HOX.out (e ▸ hg))
                have B4 := below_keeps HB3.out kk1 HB3.out.size (fun b e => by have := HGE.out; omega)
                have x0 : (w3.setCell ⟨X, 0, none⟩ (.string ⟨#[97]⟩)).cell? ⟨X, 0, none⟩ = some (.string ⟨#[97]⟩) := X4.cellAt (i := 0) rfl
                have x1 : (w3.setCell ⟨X, 0, none⟩ (.string ⟨#[97]⟩)).cell? ⟨X, 1, none⟩ = some (.int .i64 x.rel) := X4.cellAt (i := 1) rfl
                have x2 : (w3.setCell ⟨X, 0, none⟩ (.string ⟨#[97]⟩)).cell? ⟨X, 2, none⟩ = some (.int .i64 x.dl) := X4.cellAt (i := 2) rfl
                have x3 : (w3.setCell ⟨X, 0, none⟩ (.string ⟨#[97]⟩)).cell? ⟨X, 3, none⟩ = some (.int .i64 x.bud) := X4.cellAt (i := 3) rfl
                have x4 : (w3.setCell ⟨X, 0, none⟩ (.string ⟨#[97]⟩)).cell? ⟨X, 4, none⟩ = some (.int .i64 x.act) := X4.cellAt (i := 4) rfl
                have x5 : (w3.setCell ⟨X, 0, none⟩ (.string ⟨#[97]⟩)).cell? ⟨X, 5, none⟩ = some (.int .i64 x.val) := X4.cellAt (i := 5) rfl
                have x6 : (w3.setCell ⟨X, 0, none⟩ (.string ⟨#[97]⟩)).cell? ⟨X, 6, none⟩ = some (.int .i64 x.cln) := X4.cellAt (i := 6) rfl
                have x7 : (w3.setCell ⟨X, 0, none⟩ (.string ⟨#[97]⟩)).cell? ⟨X, 7, none⟩ = some (.bool x.hard) := X4.cellAt (i := 7) rfl
                have HB4 := Lib.hid B4
                have HO4 := Lib.hid O4
                clear f3 s3 kk1 X4 O4 B4 HXB HB3 HO3
                generalize w3.setCell ⟨X, 0, none⟩ (.string ⟨#[97]⟩) = w4 at *
                have O5 := own_below HO4.out ((Below.refl w4.heap.size w4).alloc (Nat.le_refl _) (.cells #[.string ⟨#[97]⟩, .int .i64 x.rel, .int .i64 x.dl, .int .i64 x.bud, .int .i64 x.act, .int .i64 x.val, .int .i64 x.cln, .bool x.hard] 36))
                have hsz5 : w.heap.size ≤ (w4.alloc (.cells #[.string ⟨#[97]⟩, .int .i64 x.rel, .int .i64 x.dl, .int .i64 x.bud, .int .i64 x.act, .int .i64 x.val, .int .i64 x.cln, .bool x.hard] 36)).heap.size := by have := HB4.out.size; simp; omega
                have hnext : (nmds (js.take (n + 1))).flatMap jc = (nmds (js.take n)).flatMap jc ++ jc (nmd x) := by rw [take_next HX.out]; simp [nmds]
                have HNX := Lib.hid hnext
                have HGO := Lib.hid (own_block_lt HO4.out)
                clear hnext
                go_wp2_with (at_builtin; refine wpList_append_has rfl (.tmp 53) (.tmp 55) 22 rfl i0 _ 72 Tryz.underlying22 hI0 hz0 hz1 hz2 rfl (by decide) rfl O5 (some ⟨w4.heap.size, 0, none⟩) 1 1 [.string ⟨#[97]⟩, .int .i64 x.rel, .int .i64 x.dl, .int .i64 x.bud, .int .i64 x.act, .int .i64 x.val, .int .i64 x.cln, .bool x.hard] rfl (Has.box w4 36 8 1 [.string ⟨#[97]⟩, .int .i64 x.rel, .int .i64 x.dl, .int .i64 x.bud, .int .i64 x.act, .int .i64 x.val, .int .i64 x.cln, .bool x.hard] rfl (by unfold maxLen; omega)) (Rob.jc_one (nmd x)) (by have := HN.out; unfold maxLen; omega) (by have := HN.out; omega) hsz5 ?_; intro v6 w6 own6 g6 at6; obtain ⟨A6, c6, hv6⟩ := own_shape own6; subst hv6; have OWN6 := Lib.hid own6; have KG := Lib.hid (keeps_grown (w0 := w) (S := fun _ => False) (Keeps.of_below (HB4.out.alloc HB4.out.size (.cells #[.string ⟨#[97]⟩, .int .i64 x.rel, .int .i64 x.dl, .int .i64 x.bud, .int .i64 x.act, .int .i64 x.val, .int .i64 x.cln, .bool x.hard] 36))) g6 (fun g hg => .inr (HGO.out g (ob_mem.2 hg)).1)); clear own6 g6 at6)
                go_roundw
                case rel => exact ⟨n + 1, by omega, by simp, KG.out.below (fun _ _ h => h), by rw [HNX.out]; exact OWN6.out⟩
                case measure => simp [intOf]; omega
              · have hlt : ¬ (n : Int) < (js.length : Int) := by omega
                have hkn2 : n = js.length := by omega
                subst hkn2
                rw [List.take_length] at O
                have O2 : wr.ownsRow w.heap.size 36 8 (.slice AS (nmds js).length cS) (nmds js).length ((nmds js).flatMap jc) := by rw [nmds_len]; exact O
                have RR := Rob.Row.of_own Rob.jc_len O2 rfl (by rw [nmds_len]; have := HN.out; unfold maxLen; omega)
                have HRR := Lib.hid RR
                have HAD := Lib.hid (own_addr O2)
                have HAL := Lib.hid (Dv.own_low O2)
                have HG := Lib.hid (nmds_goods HALL.out)
                have HAA := Lib.hid (nmds_all HALL.out)
                have HNM := Lib.hid (nmds_nm (js := js))
                have HML := Lib.hid (nmds_len js)
                have HB := Lib.hid B
                clear O O2 RR B hn hkn hlt HR HALL
                generalize nmds js = ms at *
                generalize hjn : js.length = n at *
                clear hjn
                go_wp2_with fail
                refine (HW.out _).mono ?_
                rintro e w3 ⟨rfl, rfl⟩
                have ba := (Below.refl w3.heap.size w3).alloc (Nat.le_refl _) (.cells #[.string ⟨#[97]⟩, .int .i64 (mm : Int), .int .i64 (kk : Int)] 58)
                have XW : Blk (w3.alloc (.cells #[.string ⟨#[97]⟩, .int .i64 (mm : Int), .int .i64 (kk : Int)] 58)) w3.heap.size 58 (wc mm kk) := Blk.new w3 58 (wc mm kk)
                have CN := HNW.out.new (c := cS) (HT.out.below (HB.out.trans (ba.mono HB.out.size))) (Row.below HRR.out ba) HAD.out (fun a ha => Nat.lt_of_lt_of_le (HAL.out a ha) ba.size) HG.out HAA.out (by rw [HML.out]; exact HN.out) XW HKM.out.1 (by have := HKM.out; omega) HKM.out.2.2
                rw [HML.out] at CN
                have HBa := Lib.hid ba
                clear ba XW
                go_wp2_with fail
                refine CN.mono ?_
                rintro e w5 ⟨kb, Aj, cj, Ax, cx, tv, bp, gg, tr, xs, rfl, hK, hWc, htl, b5⟩
                obtain ⟨At, ct, et⟩ := hK.T.shape
                subst et
                have CRp := report_w hK hWc (by rw [HML.out]; exact HN.out) HNM.out htl HKM.out.1 (by have := HKM.out; omega) HKM.out.2.2
                have HXL := Lib.hid hK.l
                have HB5 := Lib.hid ((HB.out.trans (HBa.out.mono HB.out.size)).trans (b5.mono (Nat.le_trans HB.out.size HBa.out.size)))
                have HRR5 := Lib.hid (Row.below (Row.below HRR.out HBa.out) b5)
                have HSZ5 := Lib.hid (Nat.le_trans HBa.out.size b5.size)
                clear CN hK hWc htl b5 HBa HRR HB
                have hyl := mets_len ms xs
                unfold RepPost at CRp
                generalize hys : mets ms xs = ys at *
                have HYS := Lib.hid hys
                have HYL := Lib.hid hyl
                clear hys hyl
                rw [HML.out] at CRp
                go_upto_region 16 with (go_at_call 18; refine CRp.mono ?_; rintro e w6 ⟨A1, t1, c1, A2, c2, n1, n2, AB, cB, bz, sw, rfl, QE, b6⟩)
                have XO := Blk.new w6 43 [.slice A1 t1 c1, .slice A2 n c2, .int .i64 n1, .int .i64 n2, .slice AB (Win.brk mm kk ys).length cB, .int .i64 bz, .int .i64 sw]
                have ba := (Below.refl w6.heap.size w6).alloc (Nat.le_refl _) (.cells #[.slice A1 t1 c1, .slice A2 n c2, .int .i64 n1, .int .i64 n2, .slice AB (Win.brk mm kk ys).length cB, .int .i64 bz, .int .i64 sw] 43)
                have bb := b6.trans (ba.mono b6.size)
                have HQ7 := Lib.hid (Rob.Has.down QE ba)
                have HRR7 := Lib.hid (Row.below HRR5.out bb)
                have HB7 := Lib.hid (HB5.out.trans (bb.mono HB5.out.size))
                have HAL7 := Lib.hid (fun a (ha : AS = some a) => Nat.lt_of_lt_of_le (HAL.out a ha) (Nat.le_trans HSZ5.out bb.size))
                have HXO := Lib.hid XO
                simp only [List.toArray] at HXO
                clear QE b6 ba bb XO CRp HRR5 HB5 HSZ5 HAL
                generalize w6.alloc (.cells #[.slice A1 t1 c1, .slice A2 n c2, .int .i64 n1, .int .i64 n2, .slice AB (Win.brk mm kk ys).length cB, .int .i64 bz, .int .i64 sw] 43) = w7 at *
                generalize w6.heap.size = X at *
                have CB := by_is (c := cS) HRR7.out HAL7.out (by rw [HML.out]; exact HN.out)
                rw [HML.out] at CB
                go_upto_region 17 with (go_at_call 19; refine CB.mono ?_; rintro e w8 ⟨g3, rfl, hO, hg3, hg4, b8⟩)
                have HO8 := Lib.hid hO
                have HQ8 := Lib.hid (Rob.Has.down HQ7.out b8)
                have HX8 := Lib.hid (blk_below HXO.out b8)
                have HB8 := Lib.hid (HB7.out.trans (b8.mono HB7.out.size))
                clear CB hO hg3 hg4 b8 HQ7 HXO HB7 HRR7 HAL7
                have y1 : w8.cell? ⟨X, 1, none⟩ = some (.slice A2 n c2) := HX8.out.cellAt (i := 1) rfl
                have qn : ((n : Int) != (n : Int)) = false := by simp
                have hkm := HKM.out
                obtain ⟨hw1, hw2⟩ := w64 ((kk : Int) - 1) (by omega)
                clear hkm
                go_wp2_with fail
                go_loopw [16, 17] (fun cn ix wr => ∃ i : Nat, kk - 1 ≤ i ∧ (i ≤ n ∨ i = kk - 1) ∧ ix = .int .i64 (i : Int) ∧ cn = .int .i64 ((Win.brkN mm kk ys i).length : Int) ∧ Below w8.heap.size w8 wr) (fun _ ix _ => n - (intOf ix).toNat)
                case atStart =>
                  have h1 := HKM.out.1
                  refine ⟨kk - 1, Nat.le_refl _, .inr rfl, ?_, ?_, Below.refl _ _⟩
                  · simp; omega
                  · rw [Win.brkN_short mm kk ys (kk - 1) (by omega)]; rfl
                case round =>
                  clear y1 qn hw1 hw2
                  obtain ⟨i, hi1, hi2, hix, hcn, B⟩ := hrel
                  subst hix hcn
                  have HBr := Lib.hid B
                  have HI1 := Lib.hid hi1
                  by_cases hlt : i < n
                  · have hlti : (i : Int) < (n : Int) := by omega
                    have hkm := HKM.out
                    have hnn := HN.out
                    have hbl := brkN_le mm kk i ys (by omega)
                    have HNX := Lib.hid (brk_next mm kk ys i)
                    have HKM2 := Lib.hid hkm
                    clear B hi1 hi2 hkm
                    generalize (Win.brkN mm kk ys i).length = L at *
                    have hkm := HKM2.out
                    obtain ⟨hw1, hw2⟩ := w64 ((i : Int) - kk) (by omega)
                    obtain ⟨hw3, hw4⟩ := w64 ((i : Int) - kk + 1) (by omega)
                    obtain ⟨hw5, hw6⟩ := w64 ((i : Int) + 1) (by omega)
                    obtain ⟨hw8, hw7⟩ := w64 ((L : Int) + 1) (by omega)
                    clear hkm
                    go_wp2_with fail
                    go_loopw [18, 19] (fun mt qx wx => ∃ q : Nat, i + 1 - kk ≤ q ∧ q ≤ i + 1 ∧ qx = .int .i64 (q : Int) ∧ mt = .int .i64 ((Win.cnt ((ys.take q).drop (i + 1 - kk)) : Nat) : Int) ∧ Below w8.heap.size w8 wx) (fun _ qx _ => i + 1 - (intOf qx).toNat)
                    case atStart =>
                      clear hw1 hw2 hw3 hw4 hw5 hw6 hw7 hw8
                      have h1 := HKM2.out
                      have h2 := HI1.out
                      refine ⟨i + 1 - kk, Nat.le_refl _, by omega, ?_, ?_, HBr.out⟩
                      · simp; omega
                      · rw [cnt_zero]; rfl
                    case round =>
                      have HWS := Lib.hid (And.intro hw5 (And.intro hw6 (And.intro hw7 hw8)))
                      clear HBr hw1 hw2 hw3 hw4 hw5 hw6 hw7 hw8
                      obtain ⟨q, hq1, hq2, hqx, hmt, B⟩ := hrel
                      subst hqx hmt
                      have HBr := Lib.hid B
                      clear B
                      by_cases hqi : q ≤ i
                      · have hqii : (q : Int) ≤ (i : Int) := by omega
                        have hqd : decide ((q : Int) ≤ (i : Int)) = true := decide_eq_true hqii
                        have hq0 : (0 : Int) ≤ (q : Int) := by omega
                        have hqn : (q : Int) < (n : Int) := by omega
                        have hq3 : (q : Int) + 1 ≤ 9223372036854775807 := by omega
                        obtain ⟨oi, hoi⟩ : ∃ oi : Nat, (ord ms)[q]? = some oi := ⟨_, List.getElem?_eq_getElem (by rw [ord_len, HML.out]; omega)⟩
                        have hon := ord_mem ms oi (List.mem_of_getElem? hoi)
                        rw [HML.out] at hon
                        obtain ⟨f, hf⟩ : ∃ f, xs[oi]? = some f := ⟨_, List.getElem?_eq_getElem (by rw [HXL.out, HML.out]; exact hon)⟩
                        obtain ⟨g4, o4, hA4, hc4⟩ := (Rob.Has.down HO8.out HBr.out).at_ (by omega)
                        cases hA4
                        have co : wr.cell? ⟨g3, 0 + q, none⟩ = some (.int .i64 (oi : Int)) := hc4 q _ (by unfold nv; rw [List.getElem?_map, hoi]; rfl)
                        rw [Nat.zero_add] at co
                        obtain ⟨g5, o5, hA5, hc5⟩ := (Rob.Has.down HQ8.out HBr.out).at_ (by omega)
                        have cf := hc5 (oi * 2) _ (flat_at Fate.cf_len hf (j := 0) rfl)
                        have y1 : wr.cell? ⟨X, 1, none⟩ = some (.slice A2 n c2) := (blk_below HX8.out HBr.out).cellAt (i := 1) rfl
                        rw [hA5] at y1
                        have ho0 : (0 : Int) ≤ (oi : Int) := by omega
                        have ho1 : (oi : Int) < (n : Int) := by omega
                        have hyq : ys[q]? = some (f.k == 1) := by
                          rw [← HYS.out]
                          unfold mets metAt
                          rw [List.getElem?_map, hoi]
                          simp [hf]
                        have hcx := cnt_next hq1 hyq
                        have hcl : Win.cnt ((ys.take q).drop (i + 1 - kk)) ≤ 12 := by
                          have h1 := Win.cnt_le ((ys.take q).drop (i + 1 - kk))
                          rw [List.length_drop, List.length_take] at h1
                          have h2 := HYL.out
                          rw [HML.out] at h2
                          omega
                        have HCX := Lib.hid hcx
                        clear hcx hyq hc4 hc5 hf hoi
                        obtain ⟨y, hy⟩ : ∃ y, (f.k == 1) = y := ⟨_, rfl⟩
                        rw [hy] at HCX
                        generalize Win.cnt ((ys.take q).drop (i + 1 - kk)) = M at *
                        have hb1 : -1000 ≤ (M : Int) + 1 ∧ (M : Int) + 1 ≤ 100000 := by omega
                        have hb2 : -1000 ≤ (q : Int) + 1 ∧ (q : Int) + 1 ≤ 100000 := by omega
                        have HWM := Lib.hid (And.intro (w64 _ hb1) (w64 _ hb2))
                        clear hb1 hb2
                        cases y with
                        | true =>
                          obtain ⟨⟨hwb, hwa⟩, ⟨hwc, hw9⟩⟩ := HWM.out
                          go_wp2_with fail
                          go_quiet (fail)
                          have HBq := Lib.hid (HBr.out.trans (((Keeps.refl (fun _ => False) wr).drewN nq).below (fun _ _ h => h) |>.mono HBr.out.size))
                          go_wp2_with fail
                          clear hwa hwb hwc hw9
                          go_roundw
                          case rel => exact ⟨q + 1, by omega, by omega, by simp, by rw [HCX.out]; simp, HBq.out⟩
                          case measure => simp [intOf]; omega
                        | false =>
                          obtain ⟨⟨hwb, hwa⟩, ⟨hwc, hw9⟩⟩ := HWM.out
                          go_wp2_with fail
                          go_quiet (fail)
                          have HBq := Lib.hid (HBr.out.trans (((Keeps.refl (fun _ => False) wr).drewN nq).below (fun _ _ h => h) |>.mono HBr.out.size))
                          go_wp2_with fail
                          clear hwa hwb hwc hw9
                          go_roundw
                          case rel => exact ⟨q + 1, by omega, by omega, by simp, by rw [HCX.out]; simp, HBq.out⟩
                          case measure => simp [intOf]; omega
                      · have hqii : ¬ (q : Int) ≤ (i : Int) := by omega
                        have hqd : decide ((q : Int) ≤ (i : Int)) = false := decide_eq_false hqii
                        have hqe : q = i + 1 := by omega
                        subst hqe
                        have hw : Win.cnt ((ys.take (i + 1)).drop (i + 1 - kk)) = Win.W kk (ys.take (i + 1)) := by
                          rw [Win.W_take kk ys (i + 1) (by have h2 := HYL.out; rw [HML.out] at h2; omega)]
                        rw [hw]
                        clear hw
                        have hki : kk ≤ i + 1 := by have := HKM2.out; have := HI1.out; omega
                        generalize Win.W kk (ys.take (i + 1)) = M at *
                        by_cases hM : M < mm
                        · have e1 := HNX.out
                          rw [if_pos ⟨hki, hM⟩] at e1
                          have HE := Lib.hid e1
                          have q1 : decide ((M : Int) < (mm : Int)) = true := decide_eq_true (by omega)
                          have q2 : (M : Int) < (mm : Int) := by omega
                          clear e1 HNX hq1 hq2
                          obtain ⟨hw5, hw6, hw7, hw8⟩ := HWS.out
                          go_wp2_with fail
                          clear hw5 hw6 hw7 hw8
                          go_roundw
                          case rel => exact ⟨i + 1, by have := HI1.out; omega, .inl (by omega), by simp, by rw [HE.out]; simp, HBr.out⟩
                          case measure => simp [intOf]; omega
                        · have e1 := HNX.out
                          rw [if_neg (fun h => hM h.2)] at e1
                          have HE := Lib.hid e1
                          have q1 : decide ((M : Int) < (mm : Int)) = false := decide_eq_false (by omega)
                          have q2 : ¬ (M : Int) < (mm : Int) := by omega
                          clear e1 HNX hq1 hq2
                          obtain ⟨hw5, hw6, hw7, hw8⟩ := HWS.out
                          go_wp2_with fail
                          clear hw5 hw6 hw7 hw8
                          go_roundw
                          case rel => exact ⟨i + 1, by have := HI1.out; omega, .inl (by omega), by simp, by rw [HE.out]; simp, HBr.out⟩
                          case measure => simp [intOf]; omega
                  · have hlti : ¬ (i : Int) < (n : Int) := by omega
                    have he := brk_end (m := mm) (k := kk) (ys := ys) (i := i) (by have h2 := HYL.out; rw [HML.out] at h2; omega) (by have h2 := HYL.out; rw [HML.out] at h2; omega) HKM.out.1
                    rw [he]
                    have y4 : wr.cell? ⟨X, 4, none⟩ = some (.slice AB (Win.brk mm kk ys).length cB) := (blk_below HX8.out B).cellAt (i := 4) rfl
                    clear he hi1 hi2 B
                    generalize (Win.brk mm kk ys).length = N at *
                    go_wp2_with fail
                    go_ret
                    exact ⟨by simp, HB8.out.trans (HBr.out.mono HB8.out.size)⟩
  · have hf2 : Job.fine js = false := by simpa using hf
    rw [hf2] at CG
    clear hf hf2
    go_wp2_with (go_at_call 8; refine CG.mono ?_; rintro e w2 ⟨rfl, b2⟩)
    go_ret
    exact ⟨rfl, HB1.out.trans (b2.mono HB1.out.size)⟩
end Kw
end Go.Proofs.YtbgiegecfapmlaaGreatDoor
