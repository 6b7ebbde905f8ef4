/- script.ran: who ran, as a text; conditions: numbers below a hundred. package script: what the lines job, start, run, earned do, at the way Robust; conditions: good jobs, at most a dozen, the library's tables as its text lays them. package script: what the lines run and earned do, at the way Robust; conditions: at most a dozen jobs. script.way at the word robust, and what it makes; conditions: none. (*script.jobs).line at the lines start, run, earned; conditions: one digit behind run. (*script.jobs).line at a line 'job'; conditions: its numbers are one digit each, told in the order r d b a v c; not hard. -/
import Derived.Test.YtbgiegecfapmlaaGreatDoorA1
namespace Go.Proofs.YtbgiegecfapmlaaGreatDoor
open Go.RowKit
set_option linter.unusedVariables false
set_option linter.unusedSimpArgs false
namespace Aw
open Rob (own_below own_block_lt ob_mem blk_below below_drew J own_base result fc iv Goods)
/-- A tick's word. -/
def tw (y : Int) : ByteArray := if 0 ≤ y then ⟨(Lib.decDigits y.toNat).toArray⟩ else ⟨#[45]⟩
def tws (l : List Int) : List ByteArray := l.map tw
/-- Their text. -/
def told (l : List Int) : ByteArray := ⟨(Lib.join ((tws l).map (·.data.toList)) (⟨#[44]⟩ : ByteArray).data.toList).toArray⟩
theorem own_cells {w : World} {base n : Nat} {A : Option Addr} {c : Nat} {l : List ByteArray} (h : w.ownsRow base 9 1 (.slice A n c) n (sv l)) (hn : 0 < n) : ∃ bk o, A = some ⟨bk, o, none⟩ ∧ n ≤ c ∧ bk < w.heap.size ∧ ∀ (j : Nat) x, l[j]? = some x → w.cell? ⟨bk, o + j, none⟩ = some (.string x) := by
  rcases (Has.of_own h).2 with ⟨_, h0⟩ | ⟨g, off, cap, cur, hv, hnc, hcm, hg, hc⟩
  · omega
  · injection hv with hA _ hcc
    subst hA hcc
    refine ⟨g, off, rfl, hnc, (Array.getElem?_eq_some_iff.1 hg).1, fun j x hx => ?_⟩
    rw [cell_of_row w g (off + j) cur 9 (0, 0) hg]
    exact hc j _ (by unfold sv; rw [List.getElem?_map, hx]; rfl)
set_option maxRecDepth 100000 in
set_option maxHeartbeats 4000000 in
theorem ran_is {w : World} {A : Option Addr} {n c : Nat} {l : List Int} (h : Has w 3 1 (.slice A n c) n (l.map iv)) (hl : ∀ y ∈ l, y < 100) (hn : n ≤ 1000) (hn0 : 0 < n) (hj : (told l).size ≤ 100000) :
    Calls Tryz.prog 239 #[.slice A n c] w fun e w' => e = .returned (.string (told l)) ∧ Below w.heap.size w w' := by
  obtain ⟨i0, hI0, hz0, hz1, hz2⟩ := infoS
  have hln : l.length = n := by have := h.1; simpa using this
  obtain ⟨g, off, hA, hc⟩ := h.at_ hn0
  have hcell := Lib.hid (fun i y (hi : l[i]? = some y) => hc i (iv y) (by rw [List.getElem?_map, hi]; rfl))
  have HL := Lib.hid hl
  have HLN := Lib.hid hln
  have HJ := Lib.hid hj
  have hglt := Lib.hid (show g < w.heap.size by
    obtain ⟨y, hy⟩ : ∃ y, l[0]? = some y := ⟨_, List.getElem?_eq_getElem (by omega)⟩
    exact World.block_lt_of_cell? w _ (hcell.out 0 y hy))
  subst hA
  clear h hl hln hj hc
  go_enter Tryz.func239, Tryz.ntmps239
  go_wp2_with fail
  go_loopw [3, 9] (fun v i wr => ∃ k : Nat, k ≤ n ∧ i = .int .i64 (k : Int) ∧ wr.ownsRow w.heap.size 9 1 v k (sv (tws (l.take k))) ∧ Below w.heap.size w wr) (fun _ i _ => n - (intOf i).toNat)
  case atStart => exact ⟨0, by omega, rfl, ⟨by simp [sv, tws], .inl ⟨rfl, rfl⟩⟩, Below.refl _ _⟩
  case round =>
    obtain ⟨k, hk, hi, O, B⟩ := hrel
    subst hi
    obtain ⟨AS, cS, hv⟩ := own_shape O
    subst hv
    by_cases hkn : k < n
    · have hlt : (k : Int) < (n : Int) := by omega
      obtain ⟨y, hy⟩ : ∃ y, l[k]? = some y := ⟨_, List.getElem?_eq_getElem (by have := HLN.out; omega)⟩
      have hc : wr.cell? ⟨g, off + k, none⟩ = some (.int .i64 y) := (B.cell (p := ⟨g, off + k, none⟩) hglt.out).trans (hcell.out k y hy)
      have hk1 : (k : Int) + 1 ≤ 9223372036854775807 := by omega
      have hy100 := HL.out y (List.mem_of_getElem? hy)
      have hnext : sv (tws (l.take (k + 1))) = sv (tws (l.take k)) ++ [.string (tw y)] := by rw [take_next hy]; simp [sv, tws]
      have O5 := own_below O ((Below.refl wr.heap.size wr).alloc (Nat.le_refl _) (.cells #[.string (tw y)] 9))
      have hsz5 : w.heap.size ≤ (wr.alloc (.cells #[.string (tw y)] 9)).heap.size := by have := B.size; simp; omega
      have hgo := own_block_lt O
      have HB := Lib.hid B
      have HN := Lib.hid hnext
      have HGO := Lib.hid hgo
      clear B O hnext hgo hy
      by_cases hy0 : 0 ≤ y
      · obtain ⟨m, rfl⟩ : ∃ m : Nat, y = (m : Int) := ⟨y.toNat, by omega⟩
        have hm : m < 100 := by omega
        have CI := Tryz.strconv_Itoa_small m hm wr
        have htw : (⟨(Lib.decDigits m).toArray⟩ : ByteArray) = tw (m : Int) := by unfold tw; rw [if_pos hy0]; rfl
        rw [htw] at CI
        clear htw
        generalize tw (m : Int) = x at *
        go_wp2_with (first | (go_at_call 53; refine CI.mono ?_; rintro e w2 ⟨rfl, rfl⟩) | (at_builtin; refine wpList_append_has rfl (.tmp 17) (.tmp 19) 41 rfl i0 _ 16 Tryz.underlying41 hI0 hz0 hz1 hz2 rfl (by decide) rfl O5 (some ⟨w2.heap.size, 0, none⟩) 1 1 [.string x] rfl (Has.box w2 9 1 1 [.string x] rfl (by unfold maxLen; omega)) (sv_one [x]) (by unfold maxLen; omega) (by omega) hsz5 ?_; intro v6 w6 own6 g6 at6; obtain ⟨A6, c6, hv6⟩ := own_shape own6; subst hv6; have OWN6 := Lib.hid own6; have KG := Lib.hid (keeps_grown (w0 := w) (S := fun _ => False) (Keeps.of_below (HB.out.alloc HB.out.size (.cells #[.string x] 9))) g6 (fun g hg => .inr (HGO.out g (ob_mem.2 hg)).1)); clear own6 g6 at6))
        go_roundw
        case rel => exact ⟨k + 1, by omega, by simp, by rw [HN.out]; exact OWN6.out, KG.out.below (fun _ _ h => h)⟩
        case measure => simp [intOf]; omega
      · have htw : (⟨#[45]⟩ : ByteArray) = tw y := by unfold tw; rw [if_neg hy0]
        have HTW := Lib.hid htw
        clear htw
        rw [← HTW.out] at O5 hsz5 HN
        go_wp2_with (at_builtin; refine wpList_append_has rfl (.tmp 17) (.tmp 19) 41 rfl i0 _ 16 Tryz.underlying41 hI0 hz0 hz1 hz2 rfl (by decide) rfl O5 (some ⟨wr.heap.size, 0, none⟩) 1 1 [.string ⟨#[45]⟩] rfl (Has.box wr 9 1 1 [.string ⟨#[45]⟩] rfl (by unfold maxLen; omega)) (sv_one [⟨#[45]⟩]) (by unfold maxLen; omega) (by omega) hsz5 ?_; intro v6 w6 own6 g6 at6; obtain ⟨A6, c6, hv6⟩ := own_shape own6; subst hv6; have OWN6 := Lib.hid own6; have KG := Lib.hid (keeps_grown (w0 := w) (S := fun _ => False) (Keeps.of_below (HB.out.alloc HB.out.size (.cells #[.string ⟨#[45]⟩] 9))) g6 (fun g hg => .inr (HGO.out g (ob_mem.2 hg)).1)); clear own6 g6 at6)
        go_roundw
        case rel => exact ⟨k + 1, by omega, by simp, by rw [HN.out]; exact OWN6.out, KG.out.below (fun _ _ h => h)⟩
        case measure => simp [intOf]; omega
    · have hlt : ¬ (k : Int) < (n : Int) := by omega
      have hkn2 : k = n := by omega
      subst hkn2
      obtain ⟨bk, o, hA, hcap, hbk, hcs⟩ := own_cells O hn0
      subst hA
      have hln := HLN.out
      have htk : l.take k = l := List.take_of_length_le (by omega)
      rw [htk] at hcs
      have hlen : (tws l).length = k := by simp [tws, hln]
      have CJ := Tryz.strings_Join bk o cS (tws l) ⟨#[44]⟩ wr hcs hbk (by rw [hlen]; omega) (by rw [hlen]; exact hcap) (by have := HJ.out; unfold told at this; rw [ByteArray.size] at this; rw [List.size_toArray] at this; exact Nat.le_trans this (by decide))
      rw [hlen] at CJ
      have HB := Lib.hid B
      change Calls _ _ _ _ (fun e w' => e = .returned (.string (told l)) ∧ _) at CJ
      clear B O hcs hlen hln htk hcap
      clear HJ
      go_wp2_with (go_at_call 247; refine CJ.mono ?_; rintro e w2 ⟨rfl, b2⟩)
      go_ret
      exact ⟨rfl, HB.out.trans (b2.mono HB.out.size)⟩
end Aw
end Go.Proofs.YtbgiegecfapmlaaGreatDoor

namespace Go.Proofs.YtbgiegecfapmlaaGreatDoor
open Go.RowKit
set_option linter.unusedVariables false
set_option linter.unusedSimpArgs false
namespace Aw
open Rob (own_below own_block_lt ob_mem blk_below below_drew J own_base result fc iv Goods)
open Job (jc jv)
section
variable {w w' : World} {P Bx x k base : Nat} {js : List J} {lv : Value} {tr : List Int} {xs : List Fa} {Aj : Option Addr} {cj : Nat} {tv : Value} {bp g : Nat}
def okB : ByteArray := ⟨#[111, 107]⟩
theorem done_is (w : World) : Calls Tryz.prog 235 #[.int .i64 0] w fun e w' => e = .returned (.tuple #[.string okB, .int .i64 0]) ∧ w' = w := by
  go_enter Tryz.func235, Tryz.ntmps235
  go_wp2_with fail
  refine bodyPost_ret (v := .tuple #[.string okB, .int .i64 0]) (by simp [results, Tryz.results235, go_sem, okB]) rfl ?_
  exact ⟨rfl, rfl⟩
set_option maxRecDepth 100000 in
set_option maxHeartbeats 4000000 in
/-- The line 'start'. -/
theorem line3_is (T : Tabs w) (hB : Blk w Bx 171 [.pointer (some ⟨P, 0, none⟩)]) (hP : Blk w P 173 [.pointer (some ⟨x, 0, none⟩)]) (h : Blk w x 69 (xc lv (.pointer none))) (O : w.ownsRow base 36 8 lv js.length (js.flatMap jc)) (hg : Goods js) (hall : Job.all js = true) (hn : js.length ≤ 12) :
    Calls Tryz.prog 237 #[.pointer (some ⟨Bx, 0, none⟩)] w fun e w' => e = .returned (.tuple #[.string okB, .int .i64 0]) ∧ ∃ k Aj cj tv bp g, Blk w' x 69 (xc lv (.pointer (some ⟨k, 0, none⟩))) ∧ Kn w' k js (res js).tr (book (res js).fs) 0 Aj cj tv bp g ∧ w.heap.size ≤ k ∧ (∀ a, Aj = some a → w.heap.size ≤ a.block) ∧ Keeps (· = x) w w' := by
  have CS := start_x T h O hg hall hn
  have CD := done_is
  have b0 := hB.cellAt (i := 0) rfl
  have p0 := hP.cellAt (i := 0) rfl
  clear T hB hP h O hg hall hn
  go_enter Tryz.func237, Tryz.ntmps237
  go_wp2_with (first | (go_at_call 12; refine CS.mono ?_; rintro e w2 ⟨rfl, HS⟩; have HS := Lib.hid HS) | (go_at_call 235; refine (CD _).mono ?_; rintro e w3 ⟨rfl, rfl⟩))
  refine bodyPost_ret (v := .tuple #[.string okB, .int .i64 0]) (by simp [results, Tryz.results237, go_sem]) rfl ?_
  exact ⟨rfl, HS.out⟩
theorem keeps_cell {w w' : World} {S : Nat → Prop} (kk : Keeps S w w') {p : Addr} {v : Value} (hc : w.cell? p = some v) (hp : ¬ S p.block) : w'.cell? p = some v := (World.cell?_of_block (kk.block p.block (World.block_lt_of_cell? w _ hc) hp)).trans hc
set_option maxRecDepth 100000 in
set_option maxHeartbeats 4000000 in
/-- The line 'job'. -/
theorem line1_is {Jb : Nat} {j : J} (T : Tabs w) (hB : Blk w Bx 171 [.pointer (some ⟨P, 0, none⟩)]) (hP : Blk w P 173 [.pointer (some ⟨x, 0, none⟩)]) (hJ : Blk w Jb 36 (jc j)) (h : Blk w x 69 (xc lv (.pointer none)))
    (O : w.ownsRow base 36 8 lv js.length (js.flatMap jc)) (hbase : base ≤ w.heap.size) (hJb : Jb < base) (hj : Job.good j = true) (hjn : j.nm.size < 4611686018427387904) (hn : js.length < 100) :
    Calls Tryz.prog 233 #[.pointer (some ⟨Bx, 0, none⟩), .pointer (some ⟨Jb, 0, none⟩)] w fun e w' => e = .returned (.tuple #[.string ⟨(Lib.decDigits js.length).toArray⟩, .int .i64 0]) ∧ ∃ lv', Blk w' x 69 (xc lv' (.pointer none)) ∧ w'.ownsRow base 36 8 lv' (js ++ [j]).length ((js ++ [j]).flatMap jc) ∧ Keeps (fun b => b = x ∨ lv.ownBlock = some b) w w' := by
  have hd := below_drew w
  have CS := submit_x (T.below hd) (blk_below h hd) (own_below O hd) (Nat.le_trans hbase (Nat.le_refl _)) hj hjn (by omega)
  have CI := Tryz.strconv_Itoa_small js.length hn
  have nB := Lib.hid (show ¬ (Bx = x ∨ lv.ownBlock = some Bx) from fun e => e.elim (Blk.ne_ hB h (by decide)) (own_type_ne O hB (by decide)))
  have nP := Lib.hid (show ¬ (P = x ∨ lv.ownBlock = some P) from fun e => e.elim (Blk.ne_ hP h (by decide)) (own_type_ne O hP (by decide)))
  have nJ := Lib.hid (show ¬ (Jb = x ∨ lv.ownBlock = some Jb) from fun e => e.elim (Blk.ne_ hJ h (by decide)) (fun e => by have := (own_block_lt O Jb (ob_mem.2 e)).1; omega))
  have b0 := hB.cellAt (i := 0) rfl
  have p0 := hP.cellAt (i := 0) rfl
  have j0 := hJ.cellAt (i := 0) rfl
  have j1 := hJ.cellAt (i := 1) rfl
  have j2 := hJ.cellAt (i := 2) rfl
  have j3 := hJ.cellAt (i := 3) rfl
  have j4 := hJ.cellAt (i := 4) rfl
  have j5 := hJ.cellAt (i := 5) rfl
  have j6 := hJ.cellAt (i := 6) rfl
  have j7 := hJ.cellAt (i := 7) rfl
  have HCS := Lib.hid CS
  have HCI := Lib.hid CI
  have HD := Lib.hid hd
  unfold jv at HCS
  have hlen := Lib.hid hn
  clear T hB hP hJ h O hbase hj hjn hn hd CS CI hJb
  go_enter Tryz.func233, Tryz.ntmps233
  go_upto_region 2 with fail
  go_region_held3 (fun W => W.cell? ⟨Bx, 0, none⟩ = some (.pointer (some ⟨P, 0, none⟩)) ∧ W.cell? ⟨P, 0, none⟩ = some (.pointer (some ⟨x, 0, none⟩)) ∧ W.cell? ⟨Jb, 0, none⟩ = some (.string j.nm) ∧ W.cell? ⟨Jb, 1, none⟩ = some (.int .i64 j.rel) ∧ W.cell? ⟨Jb, 2, none⟩ = some (.int .i64 j.dl) ∧ W.cell? ⟨Jb, 3, none⟩ = some (.int .i64 j.bud) ∧ W.cell? ⟨Jb, 4, none⟩ = some (.int .i64 j.act) ∧ W.cell? ⟨Jb, 5, none⟩ = some (.int .i64 j.val) ∧ W.cell? ⟨Jb, 6, none⟩ = some (.int .i64 j.cln) ∧ W.cell? ⟨Jb, 7, none⟩ = some (.bool j.hard)) (first | exact ⟨b0, p0, j0, j1, j2, j3, j4, j5, j6, j7⟩ | exact ⟨keeps_cell KK2.out (w := w.drew) b0 nB.out, keeps_cell KK2.out (w := w.drew) p0 nP.out, keeps_cell KK2.out (w := w.drew) j0 nJ.out, keeps_cell KK2.out (w := w.drew) j1 nJ.out, keeps_cell KK2.out (w := w.drew) j2 nJ.out, keeps_cell KK2.out (w := w.drew) j3 nJ.out, keeps_cell KK2.out (w := w.drew) j4 nJ.out, keeps_cell KK2.out (w := w.drew) j5 nJ.out, keeps_cell KK2.out (w := w.drew) j6 nJ.out, keeps_cell KK2.out (w := w.drew) j7 nJ.out⟩) (first | (go_at_call 11; refine HCS.out.mono ?_; rintro e w2 ⟨rfl, lv', X2, O2, kk⟩; have KK2 := Lib.hid kk; have HX2 := Lib.hid X2; have HO2 := Lib.hid O2; clear kk X2 O2))
  go_wp2_with (go_at_call 53; refine (HCI.out _).mono ?_; rintro e w3 ⟨rfl, rfl⟩)
  refine bodyPost_ret (v := .tuple #[.string ⟨(Lib.decDigits js.length).toArray⟩, .int .i64 0]) (by simp [results, Tryz.results233, go_sem]) rfl ?_
  exact ⟨rfl, lv', HX2.out, HO2.out, (Keeps.of_below HD.out).trans KK2.out (fun _ _ h => h)⟩
end
end Aw
end Go.Proofs.YtbgiegecfapmlaaGreatDoor

namespace Go.Proofs.YtbgiegecfapmlaaGreatDoor
open Go.RowKit
set_option linter.unusedVariables false
set_option linter.unusedSimpArgs false
namespace Aw
open Rob (own_below own_block_lt ob_mem blk_below below_drew J own_base result fc iv Goods)
open Job (jc jv)
section
variable {w w' : World} {P Bx x k base : Nat} {js : List J} {lv : Value} {tr : List Int} {xs : List Fa} {Aj : Option Addr} {cj : Nat} {tv : Value} {bp g : Nat}
set_option maxRecDepth 100000 in
set_option maxHeartbeats 4000000 in
/-- The line 'run'. -/
theorem line4_is {Nb t m : Nat} (hB : Blk w Bx 171 [.pointer (some ⟨P, 0, none⟩)]) (hP : Blk w P 173 [.pointer (some ⟨x, 0, none⟩)]) (hN : Blk w Nb 3 [.int .i64 (m : Int)]) (h : Blk w x 69 (xc lv (.pointer (some ⟨k, 0, none⟩)))) (hK : Kn w k js tr xs (t : Int) Aj cj tv bp g) (ht : t ≤ tr.length) (hl : tr.length ≤ 1000000) (hm : m ≤ 1000)
    {l : List Int} (hli : (tr.drop t).take m = l) (hy : ∀ y ∈ l, y < 100) (h0 : 0 < l.length) (h1 : l.length ≤ 1000) (hj : (told l).size ≤ 100000) :
    Calls Tryz.prog 238 #[.pointer (some ⟨Bx, 0, none⟩), .pointer (some ⟨Nb, 0, none⟩)] w fun e w' => e = .returned (.tuple #[.string (told l), .int .i64 0]) ∧
      Blk w' x 69 (xc lv (.pointer (some ⟨k, 0, none⟩))) ∧ Kn w' k js tr xs ((t + l.length : Nat) : Int) Aj cj tv bp g ∧ Keeps (· = k) w w' := by
  have hd := below_drew w
  have CS := run_x (m := m) (blk_below h hd) (hK.down hd) ht hl hm
  rw [hli] at CS
  clear hli
  have nB := Lib.hid (show ¬ Bx = k from Blk.ne_ hB hK.K (by decide))
  have nP := Lib.hid (show ¬ P = k from Blk.ne_ hP hK.K (by decide))
  have nN := Lib.hid (show ¬ Nb = k from Blk.ne_ hN hK.K (by decide))
  have b0 := hB.cellAt (i := 0) rfl
  have p0 := hP.cellAt (i := 0) rfl
  have n0 := hN.cellAt (i := 0) rfl
  have HCS := Lib.hid CS
  have HD := Lib.hid hd
  have HY := Lib.hid hy
  have H0 := Lib.hid h0
  have H1 := Lib.hid h1
  have HJ := Lib.hid hj
  clear hB hP hN h hK ht hl hm hd CS hy h0 h1 hj
  go_enter Tryz.func238, Tryz.ntmps238
  go_upto_region 2 with fail
  go_region_held3 (fun W => W.cell? ⟨Bx, 0, none⟩ = some (.pointer (some ⟨P, 0, none⟩)) ∧ W.cell? ⟨P, 0, none⟩ = some (.pointer (some ⟨x, 0, none⟩)) ∧ W.cell? ⟨Nb, 0, none⟩ = some (.int .i64 (m : Int))) (first | exact ⟨b0, p0, n0⟩ | exact ⟨keeps_cell KK2.out.k (w := w.drew) b0 nB.out, keeps_cell KK2.out.k (w := w.drew) p0 nP.out, keeps_cell KK2.out.k (w := w.drew) n0 nN.out⟩) (first | (go_at_call 13; refine HCS.out.mono ?_; rintro e w2 ⟨v, rfl, kk⟩; obtain ⟨A2, c2, hv⟩ := own_shape kk.O; subst hv; have KK2 := Lib.hid kk; clear kk))
  have CR := ran_is (Has.of_own KK2.out.O) HY.out H1.out H0.out HJ.out
  go_wp2_with (go_at_call 239; refine CR.mono ?_; rintro e w3 ⟨rfl, b3⟩)
  refine bodyPost_ret (v := .tuple #[.string (told l), .int .i64 0]) (by simp [results, Tryz.results238, go_sem]) rfl ?_
  have X2 := blk_below KK2.out.X b3
  have K2 := KK2.out.K.down b3
  have k2 := ((Keeps.of_below HD.out).trans KK2.out.k (fun _ _ h => h)).trans (Keeps.of_below (S := fun _ => False) b3) (fun _ _ h => h.elim)
  exact ⟨rfl, X2, K2, k2⟩
theorem show_is (w : World) (E : Nat) (hE : E < 100) (A1 A2 A3 : Option Addr) (n1 n2 n3 c1 c2 c3 : Nat) (a b c : Int) : Calls Tryz.prog 244 #[.agg #[.slice A1 n1 c1, .slice A2 n2 c2, .int .i64 (E : Int), .int .i64 a, .slice A3 n3 c3, .int .i64 b, .int .i64 c]] w fun e w' => e = .returned (.string ⟨(Lib.decDigits E).toArray⟩) ∧ Below w.heap.size w w' := by
  have CF := Tryz.strconv_FormatInt_10_small E hE
  have b1 := (Below.refl w.heap.size w).alloc (Nat.le_refl _) (.cells #[.slice A1 n1 c1, .slice A2 n2 c2, .int .i64 (E : Int), .int .i64 a, .slice A3 n3 c3, .int .i64 b, .int .i64 c] 43)
  have HB1 := Lib.hid b1
  clear b1
  go_enter Tryz.func244, Tryz.ntmps244
  go_wp2_with (go_at_call 242; refine (CF _).mono ?_; rintro e w3 ⟨rfl, rfl⟩)
  go_ret
  exact ⟨rfl, HB1.out⟩
set_option maxRecDepth 100000 in
set_option maxHeartbeats 4000000 in
/-- The line 'earned'. -/
theorem asks_is {Sb E : Nat} {A : Option Addr} {c : Nat} {now : Int} (hB : Blk w Bx 171 [.pointer (some ⟨P, 0, none⟩)]) (hP : Blk w P 173 [.pointer (some ⟨x, 0, none⟩)]) (hS : Blk w Sb 352 [.func (.func 244) #[] #[]])
    (h : Blk w x 69 (xc lv (.pointer (some ⟨k, 0, none⟩)))) (hK : Kn w k js tr xs now Aj cj (.slice A tr.length c) bp g) (hn : js.length ≤ 12) (hnm : ∀ x ∈ js, x.nm.size ≤ 1000) (htl : tr.length ≤ 1000000) (hE : Led.earn (rowsTo js xs js.length) = (E : Int)) (hE1 : E < 100) :
    Calls Tryz.prog 248 #[.pointer (some ⟨Bx, 0, none⟩), .pointer (some ⟨Sb, 0, none⟩)] w fun e w' => e = .returned (.tuple #[.string ⟨(Lib.decDigits E).toArray⟩, .int .i64 0]) ∧ Below w.heap.size w w' := by
  have CS := report_x h hK hn hnm htl
  have CF := show_is
  have b0 := hB.cellAt (i := 0) rfl
  have p0 := hP.cellAt (i := 0) rfl
  rw [hE] at CS
  have HS := Lib.hid hS
  have HCS := Lib.hid CS
  have HCF := Lib.hid CF
  clear hB hP hS h hK hn hnm htl hE CS CF
  go_enter Tryz.func248, Tryz.ntmps248
  go_upto_region 2 with (go_at_call 14; refine HCS.out.mono ?_; rintro e w2 ⟨v1, v2, b, s, rfl, P1, P2, b2⟩; obtain ⟨A1, c1, e1⟩ := P1.shape; subst e1; obtain ⟨A2, c2, e2⟩ := P2.shape; subst e2; have HB2 := Lib.hid b2; clear P1 P2 b2)
  have bal := (Below.refl w2.heap.size w2).alloc (Nat.le_refl _) (.cells #[.slice A1 tr.length c1, .slice A2 js.length c2, .int .i64 (E : Int), .int .i64 (Led.loss (rowsTo js xs js.length)), .slice none 0 0, .int .i64 b, .int .i64 s] 43)
  have s0 := (blk_below (blk_below HS.out HB2.out) bal).cellAt (i := 0) rfl
  have XR := Blk.new w2 43 [.slice A1 tr.length c1, .slice A2 js.length c2, .int .i64 (E : Int), .int .i64 (Led.loss (rowsTo js xs js.length)), .slice none 0 0, .int .i64 b, .int .i64 s]
  have hb3 := HB2.out.trans (((Below.refl w2.heap.size w2).alloc (Nat.le_refl _) (.cells #[.slice A1 tr.length c1, .slice A2 js.length c2, .int .i64 (E : Int), .int .i64 (Led.loss (rowsTo js xs js.length)), .slice none 0 0, .int .i64 b, .int .i64 s] 43)).mono HB2.out.size)
  have HB3 := Lib.hid hb3
  have CF := HCF.out (w2.alloc (.cells #[.slice A1 tr.length c1, .slice A2 js.length c2, .int .i64 (E : Int), .int .i64 (Led.loss (rowsTo js xs js.length)), .slice none 0 0, .int .i64 b, .int .i64 s] 43)) E hE1 A1 A2 none tr.length js.length 0 c1 c2 0 (Led.loss (rowsTo js xs js.length)) b s
  have r0 := XR.cellAt (i := 0) rfl
  have r1 := XR.cellAt (i := 1) rfl
  have r2 := XR.cellAt (i := 2) rfl
  have r3 := XR.cellAt (i := 3) rfl
  have r4 := XR.cellAt (i := 4) rfl
  have r5 := XR.cellAt (i := 5) rfl
  have r6 := XR.cellAt (i := 6) rfl
  clear HCS HCF hb3 XR bal HB2
  simp only [List.toArray] at s0 r0 r1 r2 r3 r4 r5 r6
  generalize w2.alloc (.cells #[.slice A1 tr.length c1, .slice A2 js.length c2, .int .i64 (E : Int), .int .i64 (Led.loss (rowsTo js xs js.length)), .slice none 0 0, .int .i64 b, .int .i64 s] 43) = w4 at *
  go_wp2_with (go_at_call 244; refine CF.mono ?_; rintro e w3 ⟨rfl, b3⟩)
  refine bodyPost_ret (v := .tuple #[.string ⟨(Lib.decDigits E).toArray⟩, .int .i64 0]) (by simp [results, Tryz.results248, go_sem]) rfl ?_
  exact ⟨rfl, HB3.out.trans (b3.mono HB3.out.size)⟩
end
end Aw
end Go.Proofs.YtbgiegecfapmlaaGreatDoor

namespace Go.Proofs.YtbgiegecfapmlaaGreatDoor
open Go.RowKit
set_option linter.unusedVariables false
set_option linter.unusedSimpArgs false
namespace Aw
open Rob (own_below own_block_lt ob_mem blk_below below_drew J own_base result fc iv Goods)
theorem made_is {w : World} {P : Nat} {v : Value} (h : Blk w P 173 [v]) : Calls Tryz.prog 92 #[.pointer (some ⟨P, 0, none⟩), PR] w fun e w' => e = .returned (.int .i64 0) ∧ ∃ x, Blk w' P 173 [.pointer (some ⟨x, 0, none⟩)] ∧ Blk w' x 69 (xc (.slice none 0 0) (.pointer none)) ∧ w.heap.size ≤ x ∧ Keeps (· = P) w w' := by
  have CN := new_x w
  have H := Lib.hid h
  unfold PR at CN ⊢
  clear h
  go_enter Tryz.func92, Tryz.ntmps92
  go_upto_region 2 with (go_at_call 9; refine CN.mono ?_; rintro e w2 ⟨x, rfl, X, hx, b2⟩)
  have h2 := blk_below H.out b2
  have p0 := h2.cellAt (i := 0) rfl
  have fp := h2.frozen
  have hlt := H.out.lt
  have HX := Lib.hid X
  have HB := Lib.hid b2
  have HH := Lib.hid h2
  have HXX := Lib.hid hx
  have HNE := Lib.hid (show x ≠ P by omega)
  clear X b2 h2 hx hlt CN
  go_wp2_with fail
  go_ret
  refine ⟨rfl, x, HH.out.set_ 0 _, HX.out.far HNE.out _, HXX.out, (Keeps.of_below (S := (· = P)) HB.out).setCell ⟨P, 0, none⟩ (.inl rfl) _⟩
theorem way2_is {w : World} {P V : Nat} {v : Value} (h : Blk w P 173 [v]) (hV : Blk w V 171 [.pointer (some ⟨P, 0, none⟩)]) : Calls Tryz.prog 93 #[.pointer (some ⟨V, 0, none⟩)] w fun e w' => e = .returned (.int .i64 0) ∧ ∃ x, Blk w' P 173 [.pointer (some ⟨x, 0, none⟩)] ∧ Blk w' x 69 (xc (.slice none 0 0) (.pointer none)) ∧ w.heap.size ≤ x ∧ Keeps (· = P) w w' := by
  have CM := made_is h
  have v0 := hV.cellAt (i := 0) rfl
  unfold PR at CM
  clear h hV
  go_enter Tryz.func93, Tryz.ntmps93
  go_wp2_with (go_at_call 92; refine CM.mono ?_; rintro e w2 ⟨rfl, HS⟩; have HS := Lib.hid HS)
  go_ret
  exact ⟨rfl, HS.out⟩
set_option maxRecDepth 100000 in
set_option maxHeartbeats 4000000 in
theorem way_is {w : World} {r : Nat} (h : Rd w r [⟨#[114, 111, 98, 117, 115, 116]⟩]) : Calls Tryz.prog 51 #[.pointer (some ⟨r, 0, none⟩)] w fun e w' => ∃ P V, e = .returned (.tuple #[.iface 171 (.pointer (some ⟨P, 0, none⟩)), .func (.func 93) #[] #[.pointer (some ⟨V, 0, none⟩)]]) ∧
    Blk w' P 173 [.pointer none] ∧ Blk w' V 171 [.pointer (some ⟨P, 0, none⟩)] ∧ Rd w' r [] ∧ w.heap.size ≤ P ∧ w.heap.size ≤ V ∧ Keeps (· = r) w w' := by
  have CW := word_is h (by simp)
  clear h
  go_enter Tryz.func51, Tryz.ntmps51
  go_upto_region 2 with (go_at_call 89; refine CW.mono ?_; rintro e w2 ⟨rfl, h2, k2⟩)
  have H2 := Lib.hid h2
  have K2 := Lib.hid k2
  clear h2 k2 CW
  go_wp2_with fail
  refine bodyPost_ret (v := .tuple #[.iface 171 (.pointer (some ⟨w2.heap.size, 0, none⟩)), .func (.func 93) #[] #[.pointer (some ⟨w2.heap.size + 1, 0, none⟩)]]) (by simp [results, Tryz.results51, go_sem]) rfl ?_
  have X1 := (Blk.new w2 173 [.pointer none]).alloc (.cells #[.pointer (some ⟨w2.heap.size, 0, none⟩)] 171)
  have X2 := Blk.new (w2.alloc (.cells #[.pointer none] 173)) 171 [.pointer (some ⟨w2.heap.size, 0, none⟩)]
  have ka := ((Keeps.refl (fun _ => False) w2).alloc (.cells #[.pointer none] 173)).alloc (.cells #[.pointer (some ⟨w2.heap.size, 0, none⟩)] 171)
  have hs : (w2.alloc (.cells #[.pointer none] 173)).heap.size = w2.heap.size + 1 := by simp
  rw [hs] at X2
  have k2 := K2.out.size
  exact ⟨w2.heap.size, w2.heap.size + 1, rfl, X1, X2, H2.out.kept ka (fun h => h) (fun _ _ _ h => h), k2, by omega, K2.out.trans ka (fun _ _ h => h.elim)⟩
end Aw
end Go.Proofs.YtbgiegecfapmlaaGreatDoor

namespace Go.Proofs.YtbgiegecfapmlaaGreatDoor
open Go.RowKit
set_option linter.unusedVariables false
set_option linter.unusedSimpArgs false
namespace Aw
open Rob (own_below own_block_lt ob_mem blk_below below_drew J own_base result fc iv Goods)
open Job (jc jv)
/-- What a line is kept as: the four that are met. -/
def Cl1 (w : World) (P : Nat) (j : J) (v : Value) : Prop := ∃ B Jb, v = .func (.func 233) #[] #[.pointer (some ⟨B, 0, none⟩), .pointer (some ⟨Jb, 0, none⟩)] ∧ Blk w B 171 [.pointer (some ⟨P, 0, none⟩)] ∧ Blk w Jb 36 (jc j)
def Cl3 (w : World) (P : Nat) (v : Value) : Prop := ∃ B, v = .func (.func 237) #[] #[.pointer (some ⟨B, 0, none⟩)] ∧ Blk w B 171 [.pointer (some ⟨P, 0, none⟩)]
def Cl4 (w : World) (P m : Nat) (v : Value) : Prop := ∃ B Nb, v = .func (.func 238) #[] #[.pointer (some ⟨B, 0, none⟩), .pointer (some ⟨Nb, 0, none⟩)] ∧ Blk w B 171 [.pointer (some ⟨P, 0, none⟩)] ∧ Blk w Nb 3 [.int .i64 (m : Int)]
def ClA (w : World) (P : Nat) (v : Value) : Prop := ∃ B Sb, v = .func (.func 248) #[] #[.pointer (some ⟨B, 0, none⟩), .pointer (some ⟨Sb, 0, none⟩)] ∧ Blk w B 171 [.pointer (some ⟨P, 0, none⟩)] ∧ Blk w Sb 352 [.func (.func 244) #[] #[]]
section
variable {w w' : World} {P r : Nat} {S : Nat → Prop} {v : Value} {j : J} {m : Nat}
/-- Blocks of these types are not written to. -/
def Off (w : World) (S : Nat → Prop) : Prop := ∀ b t cs, Blk w b t cs → (t = 171 ∨ t = 36 ∨ t = 3 ∨ t = 352) → ¬ S b
theorem Off.no (w : World) : Off w (fun _ => False) := fun _ _ _ _ _ h => h
theorem Cl1.kept (h : Cl1 w P j v) (k : Keeps S w w') (o : Off w S) : Cl1 w' P j v := by
  obtain ⟨B, Jb, e, X, Y⟩ := h
  exact ⟨B, Jb, e, X.kept k (o _ _ _ X (.inl rfl)), Y.kept k (o _ _ _ Y (.inr (.inl rfl)))⟩
theorem Cl3.kept (h : Cl3 w P v) (k : Keeps S w w') (o : Off w S) : Cl3 w' P v := by
  obtain ⟨B, e, X⟩ := h
  exact ⟨B, e, X.kept k (o _ _ _ X (.inl rfl))⟩
theorem Cl4.kept (h : Cl4 w P m v) (k : Keeps S w w') (o : Off w S) : Cl4 w' P m v := by
  obtain ⟨B, Jb, e, X, Y⟩ := h
  exact ⟨B, Jb, e, X.kept k (o _ _ _ X (.inl rfl)), Y.kept k (o _ _ _ Y (.inr (.inr (.inl rfl))))⟩
theorem ClA.kept (h : ClA w P v) (k : Keeps S w w') (o : Off w S) : ClA w' P v := by
  obtain ⟨B, Jb, e, X, Y⟩ := h
  exact ⟨B, Jb, e, X.kept k (o _ _ _ X (.inl rfl)), Y.kept k (o _ _ _ Y (.inr (.inr (.inr rfl))))⟩
theorem Off.of_blk {b : Nat} {t : TypeId} {cs : List Value} (h : Blk w b t cs) (h1 : t ≠ 171) (h2 : t ≠ 36) (h3 : t ≠ 3) (h4 : t ≠ 352) : Off w (· = b) := by
  intro b' t' cs' X ht e
  rcases ht with rfl | rfl | rfl | rfl
  · exact Blk.ne_ X h (Ne.symm h1) e
  · exact Blk.ne_ X h (Ne.symm h2) e
  · exact Blk.ne_ X h (Ne.symm h3) e
  · exact Blk.ne_ X h (Ne.symm h4) e
theorem asks_made (w : World) : Calls Tryz.prog 230 #[.pointer (some ⟨P, 0, none⟩), .func (.func 244) #[] #[]] w fun e w' => ∃ v, e = .returned v ∧ ClA w' P v ∧ Keeps (fun _ => False) w w' := by
  go_enter Tryz.func230, Tryz.ntmps230
  go_wp2_with fail
  go_ret
  have X1 := (Blk.new w 171 [.pointer (some ⟨P, 0, none⟩)]).alloc (.cells #[.func (.func 244) #[] #[]] 352)
  have X2 := Blk.new (w.alloc (.cells #[.pointer (some ⟨P, 0, none⟩)] 171)) 352 [.func (.func 244) #[] #[]]
  have hs : (w.alloc (.cells #[.pointer (some ⟨P, 0, none⟩)] 171)).heap.size = w.heap.size + 1 := by simp
  rw [hs] at X2
  exact ⟨_, rfl, ⟨_, _, rfl, X1, X2⟩, ((Keeps.refl (fun _ => False) w).alloc _).alloc _⟩
set_option maxRecDepth 100000 in
set_option maxHeartbeats 4000000 in
theorem line_start (h : Rd w r [⟨#[115, 116, 97, 114, 116]⟩]) : Calls Tryz.prog 231 #[.pointer (some ⟨P, 0, none⟩), .pointer (some ⟨r, 0, none⟩)] w fun e w' => ∃ v, e = .returned v ∧ Cl3 w' P v ∧ Rd w' r [] ∧ Keeps (· = r) w w' := by
  have ba := (Below.refl w.heap.size w).alloc (Nat.le_refl _) (.cells #[.pointer (some ⟨P, 0, none⟩)] 171)
  have XB := Blk.new w 171 [.pointer (some ⟨P, 0, none⟩)]
  have CW := word_is (h.down ba) (by simp)
  have nB := Lib.hid (show ¬ w.heap.size = r by have := h.lt; omega)
  have HXB := Lib.hid XB
  have HBA := Lib.hid ba
  clear h ba XB
  go_enter Tryz.func231, Tryz.ntmps231
  go_upto_region 1 with fail
  generalize w.alloc (.cells #[.pointer (some ⟨P, 0, none⟩)] 171) = w1 at *
  go_wp2_with (go_at_call 89; refine CW.mono ?_; rintro e w2 ⟨rfl, h2, k2⟩; have H2 := Lib.hid h2; have K2 := Lib.hid k2; clear h2 k2)
  go_ret
  exact ⟨_, rfl, ⟨_, rfl, HXB.out.kept K2.out nB.out⟩, H2.out, (Keeps.of_below HBA.out).trans K2.out (fun _ _ h => h)⟩
set_option maxRecDepth 100000 in
set_option maxHeartbeats 4000000 in
theorem line_run {d : Nat} (hd : d < 6) (h : Rd w r [⟨#[114, 117, 110]⟩, dg d]) : Calls Tryz.prog 231 #[.pointer (some ⟨P, 0, none⟩), .pointer (some ⟨r, 0, none⟩)] w fun e w' => ∃ v, e = .returned v ∧ Cl4 w' P d v ∧ Rd w' r [] ∧ Keeps (· = r) w w' := by
  have ba := (Below.refl w.heap.size w).alloc (Nat.le_refl _) (.cells #[.pointer (some ⟨P, 0, none⟩)] 171)
  have XB := Blk.new w 171 [.pointer (some ⟨P, 0, none⟩)]
  have CW := word_is (h.down ba) (by simp)
  have nB := Lib.hid (show ¬ w.heap.size = r by have := h.lt; omega)
  have HXB := Lib.hid XB
  have HBA := Lib.hid ba
  clear h ba XB
  go_enter Tryz.func231, Tryz.ntmps231
  go_upto_region 1 with fail
  generalize w.alloc (.cells #[.pointer (some ⟨P, 0, none⟩)] 171) = w1 at *
  go_wp2_with (first | (go_at_call 89; refine CW.mono ?_; rintro e w2 ⟨rfl, h2, k2⟩; have CI := int_is h2 (by simp) hd; have K2 := Lib.hid k2; clear h2 k2) | (go_at_call 98; refine CI.mono ?_; rintro e w3 ⟨rfl, h3, k3⟩; have H3 := Lib.hid h3; have K3 := Lib.hid k3; clear h3 k3))
  go_ret
  have ka := (Keeps.refl (fun _ => False) w3).alloc (.cells #[.int .i64 (d : Int)] 3)
  have kk := (K2.out.trans K3.out (fun _ _ h => h)).trans ka (fun _ _ h => h.elim)
  exact ⟨_, rfl, ⟨_, _, rfl, HXB.out.kept kk nB.out, Blk.new w3 3 [.int .i64 (d : Int)]⟩, H3.out.kept ka (fun h => h) (fun _ _ _ h => h), (Keeps.of_below HBA.out).trans kk (fun _ _ h => h)⟩
set_option maxRecDepth 100000 in
set_option maxHeartbeats 4000000 in
theorem line_earned (h : Rd w r [⟨#[101, 97, 114, 110, 101, 100]⟩]) : Calls Tryz.prog 231 #[.pointer (some ⟨P, 0, none⟩), .pointer (some ⟨r, 0, none⟩)] w fun e w' => ∃ v, e = .returned v ∧ ClA w' P v ∧ Rd w' r [] ∧ Keeps (· = r) w w' := by
  have ba := (Below.refl w.heap.size w).alloc (Nat.le_refl _) (.cells #[.pointer (some ⟨P, 0, none⟩)] 171)
  have XB := Blk.new w 171 [.pointer (some ⟨P, 0, none⟩)]
  have CW := word_is (h.down ba) (by simp)
  have nB := Lib.hid (show ¬ w.heap.size = r by have := h.lt; omega)
  have CA := fun W => asks_made (P := P) W
  have HXB := Lib.hid XB
  have HBA := Lib.hid ba
  clear h ba XB
  go_enter Tryz.func231, Tryz.ntmps231
  go_upto_region 1 with fail
  generalize w.alloc (.cells #[.pointer (some ⟨P, 0, none⟩)] 171) = w1 at *
  go_wp2_with (first | (go_at_call 89; refine CW.mono ?_; rintro e w2 ⟨rfl, h2, k2⟩; have b0 := (HXB.out.kept k2 nB.out).cellAt (i := 0) rfl; have H2 := Lib.hid h2; have K2 := Lib.hid k2; clear h2 k2) | (go_at_call 230; refine (CA _).mono ?_; rintro e w3 ⟨v, rfl, h3, k3⟩; obtain ⟨B, Sb, hv, X, Y⟩ := h3; subst hv; have HX := Lib.hid X; have HY := Lib.hid Y; have K3 := Lib.hid k3; clear X Y k3))
  go_ret
  exact ⟨_, rfl, ⟨_, _, rfl, HX.out, HY.out⟩, H2.out.kept K3.out (fun h => h) (fun _ _ _ h => h), ((Keeps.of_below HBA.out).trans K2.out (fun _ _ h => h)).trans K3.out (fun _ _ h => h.elim)⟩
end
end Aw
end Go.Proofs.YtbgiegecfapmlaaGreatDoor

namespace Go.Proofs.YtbgiegecfapmlaaGreatDoor
open Go.RowKit
set_option linter.unusedVariables false
set_option linter.unusedSimpArgs false
namespace Aw
open Rob (own_below own_block_lt ob_mem blk_below below_drew J own_base result fc iv Goods)
open Job (jc jv)
/-- The keys, in their order. -/
def ky : Nat → UInt8
  | 0 => 114
  | 1 => 100
  | 2 => 98
  | 3 => 97
  | 4 => 118
  | _ => 99
/-- The job, where the first i numbers have been read. -/
def jcell (nm : ByteArray) (ds : Nat → Nat) (i : Nat) : List Value :=
  [.string nm, .int .i64 (if 0 < i then (ds 0 : Int) else 0), .int .i64 (if 1 < i then (ds 1 : Int) else 0), .int .i64 (if 2 < i then (ds 2 : Int) else 0), .int .i64 (if 3 < i then (ds 3 : Int) else 0), .int .i64 (if 4 < i then (ds 4 : Int) else 0), .int .i64 (if 5 < i then (ds 5 : Int) else 0), .bool false]
def fcell (Jb : Nat) : List Value := [.string ⟨#[114]⟩, .pointer (some ⟨Jb, 1, none⟩), .string ⟨#[100]⟩, .pointer (some ⟨Jb, 2, none⟩), .string ⟨#[98]⟩, .pointer (some ⟨Jb, 3, none⟩), .string ⟨#[97]⟩, .pointer (some ⟨Jb, 4, none⟩), .string ⟨#[118]⟩, .pointer (some ⟨Jb, 5, none⟩), .string ⟨#[99]⟩, .pointer (some ⟨Jb, 6, none⟩)]
/-- What is left to read behind i numbers. -/
def jrest (ds : Nat → Nat) : Nat → List ByteArray
  | 0 => [kv 114 (ds 0), kv 100 (ds 1), kv 98 (ds 2), kv 97 (ds 3), kv 118 (ds 4), kv 99 (ds 5)]
  | 1 => [kv 100 (ds 1), kv 98 (ds 2), kv 97 (ds 3), kv 118 (ds 4), kv 99 (ds 5)]
  | 2 => [kv 98 (ds 2), kv 97 (ds 3), kv 118 (ds 4), kv 99 (ds 5)]
  | 3 => [kv 97 (ds 3), kv 118 (ds 4), kv 99 (ds 5)]
  | 4 => [kv 118 (ds 4), kv 99 (ds 5)]
  | 5 => [kv 99 (ds 5)]
  | _ => []
theorem case6 {p : Nat → Prop} {i : Nat} (hi : i < 6) (h0 : p 0) (h1 : p 1) (h2 : p 2) (h3 : p 3) (h4 : p 4) (h5 : p 5) : p i := by
  have : i = 0 ∨ i = 1 ∨ i = 2 ∨ i = 3 ∨ i = 4 ∨ i = 5 := by omega
  rcases this with rfl | rfl | rfl | rfl | rfl | rfl <;> assumption
theorem jcell_set (nm : ByteArray) (ds : Nat → Nat) {i : Nat} (hi : i < 6) : (jcell nm ds i).set (i + 1) (.int .i64 (ds i : Int)) = jcell nm ds (i + 1) :=
  case6 (p := fun i => (jcell nm ds i).set (i + 1) (.int .i64 (ds i : Int)) = jcell nm ds (i + 1)) hi rfl rfl rfl rfl rfl rfl
theorem fcell_k (Jb : Nat) {i : Nat} (hi : i < 6) : (fcell Jb)[i * 2]? = some (.string ⟨#[ky i]⟩) :=
  case6 (p := fun i => (fcell Jb)[i * 2]? = some (.string ⟨#[ky i]⟩)) hi rfl rfl rfl rfl rfl rfl
theorem fcell_p (Jb : Nat) {i : Nat} (hi : i < 6) : (fcell Jb)[i * 2 + 1]? = some (.pointer (some ⟨Jb, i + 1, none⟩)) :=
  case6 (p := fun i => (fcell Jb)[i * 2 + 1]? = some (.pointer (some ⟨Jb, i + 1, none⟩))) hi rfl rfl rfl rfl rfl rfl
theorem jrest_next (ds : Nat → Nat) {i : Nat} (hi : i < 6) : jrest ds i = kv (ky i) (ds i) :: jrest ds (i + 1) :=
  case6 (p := fun i => jrest ds i = kv (ky i) (ds i) :: jrest ds (i + 1)) hi rfl rfl rfl rfl rfl rfl
theorem jrest_len (ds : Nat → Nat) {i : Nat} (hi : i < 6) : (jrest ds (i + 1)).length ≤ 1000 :=
  case6 (p := fun i => (jrest ds (i + 1)).length ≤ 1000) hi (by simp [jrest]) (by simp [jrest]) (by simp [jrest]) (by simp [jrest]) (by simp [jrest]) (by simp [jrest])
theorem jcell_at (nm : ByteArray) (ds : Nat → Nat) {i : Nat} (hi : i < 6) : True ∧ (jcell nm ds i)[i + 1]? = some (.int .i64 0) :=
  ⟨trivial, case6 (p := fun i => (jcell nm ds i)[i + 1]? = some (.int .i64 0)) hi rfl rfl rfl rfl rfl rfl⟩
theorem Rd.blk {w : World} {r : Nat} {ws : List ByteArray} (h : Rd w r ws) : True ∧ Blk w r 170 [.slice h.choose ws.length h.choose_spec.choose, .bool false] := ⟨trivial, h.choose_spec.choose_spec.1⟩
/-- The read job. -/
def jof (nm : ByteArray) (ds : Nat → Nat) : J := ⟨nm, ds 0, ds 1, ds 2, ds 3, ds 4, ds 5, false⟩
theorem jcell_end (nm : ByteArray) (ds : Nat → Nat) : jcell nm ds 6 = jc (jof nm ds) := rfl
/-- In the loop. -/
structure Jin (w1 : World) (Jb L r : Nat) (nm : ByteArray) (ds : Nat → Nat) (i : Nat) (wr : World) : Prop where
  J : Blk wr Jb 36 (jcell nm ds i)
  L : Blk wr L 346 (fcell Jb)
  R : Rd wr r (jrest ds i)
  k : Keeps (fun b => b = Jb ∨ b = r) w1 wr
section
variable {w w' : World} {P r : Nat}
set_option maxRecDepth 100000 in
set_option maxHeartbeats 8000000 in
theorem line_job {nm : ByteArray} {ds : Nat → Nat} (hds : ∀ i, ds i < 6) (h : Rd w r (⟨#[106, 111, 98]⟩ :: nm :: jrest ds 0)) : Calls Tryz.prog 231 #[.pointer (some ⟨P, 0, none⟩), .pointer (some ⟨r, 0, none⟩)] w fun e w' => ∃ v, e = .returned v ∧ Cl1 w' P (jof nm ds) v ∧ Rd w' r [] ∧ Keeps (· = r) w w' := by
  have ba := (Below.refl w.heap.size w).alloc (Nat.le_refl _) (.cells #[.pointer (some ⟨P, 0, none⟩)] 171)
  have XB := Blk.new w 171 [.pointer (some ⟨P, 0, none⟩)]
  have CW := word_is (h.down ba) (by simp [jrest])
  have hrl := Lib.hid h.lt
  have nB := Lib.hid (show ¬ w.heap.size = r by have := h.lt; omega)
  have HXB := Lib.hid XB
  have HBA := Lib.hid ba
  have HDS := Lib.hid hds
  clear h ba XB hds
  go_enter Tryz.func231, Tryz.ntmps231
  go_upto_region 1 with fail
  generalize w.alloc (.cells #[.pointer (some ⟨P, 0, none⟩)] 171) = w1 at *
  go_upto_region 3 with (go_at_call 89; refine CW.mono ?_; rintro e w2 ⟨rfl, h2, k2⟩; have CV := word_is h2 (by simp [jrest]); have K2 := Lib.hid k2; clear h2 k2)
  clear CW
  go_upto_region 4 with (go_at_call 89; refine CV.mono ?_; rintro e w3 ⟨rfl, h3, k3⟩; have H3 := Lib.hid h3; have K3 := Lib.hid k3; clear h3 k3)
  have ka := (Keeps.refl (fun _ => False) w3).alloc (.cells #[.string nm, .int .i64 0, .int .i64 0, .int .i64 0, .int .i64 0, .int .i64 0, .int .i64 0, .bool false] 36)
  have XJ : Blk (w3.alloc (.cells #[.string nm, .int .i64 0, .int .i64 0, .int .i64 0, .int .i64 0, .int .i64 0, .int .i64 0, .bool false] 36)) w3.heap.size 36 (jcell nm ds 0) := Blk.new w3 36 (jcell nm ds 0)
  have nJr := Lib.hid (show ¬ w3.heap.size = r by have := hrl.out; have := HBA.out.size; have := K2.out.size; have := K3.out.size; omega)
  have HJ := Lib.hid XJ
  have HKA := Lib.hid ka
  have hJn := Lib.hid (show w.heap.size ≤ w3.heap.size by have := HBA.out.size; have := K2.out.size; have := K3.out.size; omega)
  have hJlt := Lib.hid (show w1.heap.size ≤ w3.heap.size by have := K2.out.size; have := K3.out.size; omega)
  clear XJ ka CV
  generalize w3.alloc (.cells #[.string nm, .int .i64 0, .int .i64 0, .int .i64 0, .int .i64 0, .int .i64 0, .int .i64 0, .bool false] 36) = w4 at *
  generalize w3.heap.size = Jb at *
  have XL : Blk (w4.alloc (.cells #[.string ⟨#[114]⟩, .pointer (some ⟨Jb, 1, none⟩), .string ⟨#[100]⟩, .pointer (some ⟨Jb, 2, none⟩), .string ⟨#[98]⟩, .pointer (some ⟨Jb, 3, none⟩), .string ⟨#[97]⟩, .pointer (some ⟨Jb, 4, none⟩), .string ⟨#[118]⟩, .pointer (some ⟨Jb, 5, none⟩), .string ⟨#[99]⟩, .pointer (some ⟨Jb, 6, none⟩)] 346)) w4.heap.size 346 (fcell Jb) := Blk.new w4 346 (fcell Jb)
  have HL := Lib.hid XL
  have kL := (Keeps.refl (fun _ => False) w4).alloc (.cells #[.string ⟨#[114]⟩, .pointer (some ⟨Jb, 1, none⟩), .string ⟨#[100]⟩, .pointer (some ⟨Jb, 2, none⟩), .string ⟨#[98]⟩, .pointer (some ⟨Jb, 3, none⟩), .string ⟨#[97]⟩, .pointer (some ⟨Jb, 4, none⟩), .string ⟨#[118]⟩, .pointer (some ⟨Jb, 5, none⟩), .string ⟨#[99]⟩, .pointer (some ⟨Jb, 6, none⟩)] 346)
  have HKL := Lib.hid kL
  clear XL kL
  go_wp2_with fail
  generalize w4.alloc (.cells #[.string ⟨#[114]⟩, .pointer (some ⟨Jb, 1, none⟩), .string ⟨#[100]⟩, .pointer (some ⟨Jb, 2, none⟩), .string ⟨#[98]⟩, .pointer (some ⟨Jb, 3, none⟩), .string ⟨#[97]⟩, .pointer (some ⟨Jb, 4, none⟩), .string ⟨#[118]⟩, .pointer (some ⟨Jb, 5, none⟩), .string ⟨#[99]⟩, .pointer (some ⟨Jb, 6, none⟩)] 346) = w5 at *
  generalize w4.heap.size = L at *
  have hJ5 : Blk w5 Jb 36 (jcell nm ds 0) := HJ.out.kept HKL.out (fun h => h)
  have hR5 : Rd w5 r (jrest ds 0) := (H3.out.kept HKA.out (fun h => h) (fun _ _ _ h => h)).kept HKL.out (fun h => h) (fun _ _ _ h => h)
  have hIn : Jin w5 Jb L r nm ds 0 w5 := ⟨hJ5, HL.out, hR5, Keeps.refl _ _⟩
  have HIN := Lib.hid hIn
  have XJ0 := Lib.hid (show Blk w5 Jb 36 (jcell nm ds 0) from hJ5)
  have XB0 := Lib.hid (show w.heap.size ≠ Jb from fun e => by have := Blk.lt HXB.out; have := hJlt.out; omega)
  have KK5 := Lib.hid (((K2.out.trans K3.out (fun _ _ h => h)).trans HKA.out (fun _ _ h => h.elim)).trans HKL.out (fun _ _ h => h.elim))
  clear HJ hJ5 hR5 hIn H3 HKA HKL HL K2 K3
  go_loopw [31] (fun v wr => ∃ i : Nat, i ≤ 6 ∧ v = .int .i64 (i : Int) ∧ Jin w5 Jb L r nm ds i wr) (fun v _ => 6 - (intOf v).toNat)
  case atStart => exact ⟨0, by omega, rfl, HIN.out⟩
  case round =>
    clear HIN
    obtain ⟨i, hi, hv, hin⟩ := hrel
    subst hv
    by_cases hi6 : i < 6
    · have hlt : (i : Int) < 6 := by omega
      have hi0 : (0 : Int) ≤ (i : Int) := by omega
      have hi1 : (i : Int) + 1 ≤ 9223372036854775807 := by omega
      have c0 : wr.cell? ⟨L, i * 2, none⟩ = some (.string ⟨#[ky i]⟩) := hin.L.cellAt (fcell_k Jb hi6)
      have c1 : wr.cell? ⟨L, i * 2 + 1, none⟩ = some (.pointer (some ⟨Jb, i + 1, none⟩)) := hin.L.cellAt (fcell_p Jb hi6)
      have XK := Blk.new wr 346 [.string ⟨#[ky i]⟩, .pointer (some ⟨Jb, i + 1, none⟩)]
      have kk := (Keeps.refl (fun _ => False) wr).alloc (.cells #[.string ⟨#[ky i]⟩, .pointer (some ⟨Jb, i + 1, none⟩)] 346)
      have hJ6 := hin.J.kept kk (fun h => h)
      have hL6 := hin.L.kept kk (fun h => h)
      have hR6 := hin.R.kept kk (fun h => h) (fun _ _ _ h => h)
      have hk6 := hin.k.trans kk (fun _ _ h => h.elim)
      have hKr := Lib.hid (show ¬ wr.heap.size = r by have := hin.R.lt; omega)
      have hset := jcell_set nm ds hi6
      have hrn := jrest_next ds hi6
      have hrl2 := jrest_len ds hi6
      have hd := HDS.out i
      rw [hrn] at hR6
      have HJ6 := Lib.hid hJ6
      have HL6 := Lib.hid hL6
      have HR6 := Lib.hid hR6
      have HK6 := Lib.hid hk6
      have HSET := Lib.hid hset
      have HXK := Lib.hid XK
      have HRL := Lib.hid hrl2
      have HD := Lib.hid hd
      clear hin kk hJ6 hL6 hR6 hk6 hset hrn XK hrl2 hd
      go_upto_region 7 with fail
      generalize wr.alloc (.cells #[.string ⟨#[ky i]⟩, .pointer (some ⟨Jb, i + 1, none⟩)] 346) = w6 at *
      generalize wr.heap.size = K at *
      refine wpU_begin (S := (fun W => W.cell? ⟨K, 0, none⟩ = some (.string ⟨#[ky i]⟩) ∧ W.cell? ⟨K, 1, none⟩ = some (.pointer (some ⟨Jb, i + 1, none⟩)))) (U := 7) (by kernel_rfl) ?_
      have hwd := below_drew w6
      have CF := field_is (HR6.out.down hwd) HRL.out HD.out
      have x1 : w6.drew.cell? ⟨K, 0, none⟩ = some (.string ⟨#[ky i]⟩) := HXK.out.cellAt (i := 0) rfl
      have x2 : w6.drew.cell? ⟨K, 1, none⟩ = some (.pointer (some ⟨Jb, i + 1, none⟩)) := HXK.out.cellAt (i := 1) rfl
      have HKD := Lib.hid ((HK6.out.trans (Keeps.of_below (S := fun _ => False) hwd) (fun _ _ h => h.elim)))
      have HJD := Lib.hid (blk_below HJ6.out hwd)
      have HLD := Lib.hid (blk_below HL6.out hwd)
      have nLr := Lib.hid (show ¬ L = r from Blk.ne_ HL6.out HR6.out.blk.2 (by decide))
      clear hwd c0 c1 HXK HJ6 HL6 HR6 HK6
      generalize w6.drew = wd at *
      refine wpU_take (i := 0) (oi := ⟨some 35, _, _, _, _, _⟩) (v := ?_) rfl (by kernel_rfl) (by kernel_rfl) (by kernel_rfl) (fun _ _ _ h => h) (by decide) (fun _ => ⟨x1, x2⟩) (Or.inl ⟨by kernel_rfl, ?_⟩) ?_
      rotate_left
      · intro w hSw; go_simp; try with_reducible rfl
      rotate_left
      try simp only [Act.put, List.setIfInBounds_toArray, List.set_cons_zero, List.set_cons_succ]
      refine wpU_load (i := 1) (oi := ⟨some 36, _, _, _, _, _⟩) (v := ?_) rfl (by kernel_rfl) (by kernel_rfl) (by kernel_rfl) (fun _ _ _ h => h) (by decide) (by kernel_rfl) (by kernel_rfl) (Or.inl ⟨by kernel_rfl, ?_⟩) ⟨x1, x2⟩ ?_
      rotate_left
      · intro w hSw; (try dsimp only at hSw); obtain ⟨q1, q2⟩ := hSw; go_simp; try with_reducible rfl
      rotate_left
      try simp only [Act.put, List.setIfInBounds_toArray, List.set_cons_zero, List.set_cons_succ]
      refine wpU_take (i := 2) (oi := ⟨some 37, _, _, _, _, _⟩) (v := ?_) rfl (by kernel_rfl) (by kernel_rfl) (by kernel_rfl) (fun _ _ _ h => h) (by decide) (fun _ => ⟨x1, x2⟩) (Or.inl ⟨by kernel_rfl, ?_⟩) ?_
      rotate_left
      · intro w hSw; go_simp; try with_reducible rfl
      rotate_left
      try simp only [Act.put, List.setIfInBounds_toArray, List.set_cons_zero, List.set_cons_succ]
      refine wpU_take (i := 3) (oi := ⟨some 38, _, _, _, _, _⟩) (v := ?_) rfl (by kernel_rfl) (by kernel_rfl) (by kernel_rfl) (fun _ _ _ h => h) (by decide) (fun _ => ⟨x1, x2⟩) (Or.inl ⟨by kernel_rfl, ?_⟩) ?_
      rotate_left
      · intro w hSw; go_simp; try with_reducible rfl
      rotate_left
      try simp only [Act.put, List.setIfInBounds_toArray, List.set_cons_zero, List.set_cons_succ]
      refine wpU_load (i := 4) (oi := ⟨some 39, _, _, _, _, _⟩) (v := ?_) rfl (by kernel_rfl) (by kernel_rfl) (by kernel_rfl) (fun _ _ _ h => h) (by decide) (by kernel_rfl) (by kernel_rfl) (Or.inl ⟨by kernel_rfl, ?_⟩) ⟨x1, x2⟩ ?_
      rotate_left
      · intro w hSw; (try dsimp only at hSw); obtain ⟨q1, q2⟩ := hSw; go_simp; try with_reducible rfl
      rotate_left
      try simp only [Act.put, List.setIfInBounds_toArray, List.set_cons_zero, List.set_cons_succ]
      refine wpU_ready (rs := [5]) (by kernel_rfl) (by simp) ?_
      refine AllReadyU.cons (o := ⟨some 40, _, _, _, _, _⟩) rfl (fun K hK => ?_) AllReadyU.nil
      go_simp
      refine CF.mono ?_
      rintro e w7 ⟨rfl, h7, k7⟩
      have y1 := keeps_cell k7 x1 hKr.out
      have y2 := keeps_cell k7 x2 hKr.out
      have X7 := HJD.out.kept k7 nJr.out
      have f7 := X7.frozen
      have s7 := X7.cellAt (jcell_at nm ds hi6).2
      have H7 := Lib.hid h7
      have K7 := Lib.hid k7
      have HX7 := Lib.hid X7
      clear h7 k7 X7 CF
      refine hK.out _ _ (fun _ => ⟨y1, y2⟩) ?_
      clear hK K
      try simp only [Act.put, List.setIfInBounds_toArray, List.set_cons_zero, List.set_cons_succ]
      refine wpU_take (i := 6) (oi := ⟨some 41, _, _, _, _, _⟩) (v := ?_) rfl (by kernel_rfl) (by kernel_rfl) (by kernel_rfl) (fun _ _ _ h => h) (by decide) (fun _ => ⟨y1, y2⟩) (Or.inl ⟨by kernel_rfl, ?_⟩) ?_
      rotate_left
      · intro w hSw; go_simp; try with_reducible rfl
      rotate_left
      try simp only [Act.put, List.setIfInBounds_toArray, List.set_cons_zero, List.set_cons_succ]
      refine wpU_ready (rs := [7]) (by kernel_rfl) (by simp) ?_
      refine AllReadyU.cons (o := ⟨none, _, _, _, _, _⟩) rfl (fun K hK => ?_) AllReadyU.nil
      go_simp
      refine hK.out _ _ (fun h => absurd h (by decide)) ?_
      clear hK K
      try simp only [Act.put, List.setIfInBounds_toArray, List.set_cons_zero, List.set_cons_succ]
      refine wpU_done (by kernel_rfl) ?_ _
      go_wp2_with fail
      go_roundw
      case rel => exact ⟨i + 1, by omega, by simp, ⟨by rw [← HSET.out]; exact HX7.out.set_ (i + 1) _, (HLD.out.kept K7.out nLr.out).far (fun e => Blk.ne_ HLD.out HJD.out (by decide) e) _, H7.out.kept ((Keeps.refl (· = Jb) w7).setCell ⟨Jb, i + 1, none⟩ (.inl rfl) _) (fun e => nJr.out e.symm) (own_ne HX7.out (by decide)), (HKD.out.trans K7.out (fun _ _ h => .inr h)).setCell ⟨Jb, i + 1, none⟩ (.inl (.inl rfl)) _⟩⟩
      case measure => simp [intOf]; omega
    · have hlt : ¬ (i : Int) < 6 := by omega
      have hi7 : i = 6 := by omega
      subst hi7
      have CM := may_end hin.R ⟨#[104, 97, 114, 100]⟩
      have f7 := hin.J.frozen
      have s7 : wr.cell? ⟨Jb, 7, none⟩ = some (.bool false) := hin.J.cellAt (i := 7) rfl
      have HH := Lib.hid hin
      clear hin hi hi6
      go_wp2_with (go_at_call 96; refine CM.mono ?_; rintro e w7 ⟨rfl, rfl⟩)
      go_ret
      have XB5 := HXB.out.kept KK5.out nB.out
      have XB7 := XB5.kept HH.out.k (fun e => e.elim (fun e => XB0.out e) nB.out)
      have kf := (Keeps.refl (· = Jb) w7).setCell ⟨Jb, 7, none⟩ (.inl rfl) (.bool false)
      have XJ7 := HH.out.J.set_ 7 (.bool false)
      refine ⟨_, rfl, ⟨_, _, rfl, XB7.far (fun e => Blk.ne_ XB7 HH.out.J (by decide) e) _, XJ7⟩, HH.out.R.kept kf (fun e => nJr.out e.symm) (own_ne HH.out.J (by decide)), ?_⟩
      exact (((Keeps.of_below HBA.out).trans KK5.out (fun _ _ h => h)).trans HH.out.k (fun b hb h => h.elim (fun e => by have := hJn.out; omega) id)).trans kf (fun b hb e => by have := hJn.out; omega)
end
end Aw
end Go.Proofs.YtbgiegecfapmlaaGreatDoor
