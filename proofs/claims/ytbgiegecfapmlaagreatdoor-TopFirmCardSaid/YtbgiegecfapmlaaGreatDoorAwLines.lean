/- script.lines, at the one text that every law asks first; conditions: the library's tables as its text lays them. -/
import Derived.Test.YtbgiegecfapmlaaGreatDoorAwRead
namespace Go.Proofs.YtbgiegecfapmlaaGreatDoor
open Go.RowKit
set_option linter.unusedVariables false
set_option linter.unusedSimpArgs false
namespace Aw
open Rob (own_below own_block_lt ob_mem blk_below below_drew)
def T0 : ByteArray := ⟨#[114, 111, 98, 117, 115, 116, 10, 106, 111, 98, 32, 97, 32, 114, 61, 48, 32, 100, 61, 52, 32, 98, 61, 50, 32, 97, 61, 50, 32, 118, 61, 53, 32, 99, 61, 48, 10, 115, 116, 97, 114, 116, 10, 114, 117, 110, 32, 51, 10, 101, 97, 114, 110, 101, 100]⟩
def L0 : ByteArray := ⟨#[114, 111, 98, 117, 115, 116]⟩
def L1 : ByteArray := ⟨#[106, 111, 98, 32, 97, 32, 114, 61, 48, 32, 100, 61, 52, 32, 98, 61, 50, 32, 97, 61, 50, 32, 118, 61, 53, 32, 99, 61, 48]⟩
def L2 : ByteArray := ⟨#[115, 116, 97, 114, 116]⟩
def L3 : ByteArray := ⟨#[114, 117, 110, 32, 51]⟩
def L4 : ByteArray := ⟨#[101, 97, 114, 110, 101, 100]⟩
def Ls : List ByteArray := [L0, L1, L2, L3, L4]
theorem words0 : words L0 = [⟨#[114, 111, 98, 117, 115, 116]⟩] := by decide +kernel
theorem words1 : words L1 = [⟨#[106, 111, 98]⟩, ⟨#[97]⟩, ⟨#[114, 61, 48]⟩, ⟨#[100, 61, 52]⟩, ⟨#[98, 61, 50]⟩, ⟨#[97, 61, 50]⟩, ⟨#[118, 61, 53]⟩, ⟨#[99, 61, 48]⟩] := by decide +kernel
theorem words2 : words L2 = [⟨#[115, 116, 97, 114, 116]⟩] := by decide +kernel
theorem words3 : words L3 = [⟨#[114, 117, 110]⟩, ⟨#[51]⟩] := by decide +kernel
theorem words4 : words L4 = [⟨#[101, 97, 114, 110, 101, 100]⟩] := by decide +kernel
theorem cut0 : (⟨(Lib.trimSuffix T0.data.toList (⟨#[10]⟩ : ByteArray).data.toList).toArray⟩ : ByteArray) = T0 := by decide +kernel
theorem suf0 : Lib.hasSuffix T0.data.toList (⟨#[10]⟩ : ByteArray).data.toList = false := by decide +kernel
theorem cnt0 : Lib.countB T0 ⟨#[10]⟩ = 4 := by decide +kernel
theorem spl0 : Lib.splitB ⟨#[10]⟩ 0 4 T0 = Ls := by decide +kernel
theorem sz0 : T0.size = 55 := rfl
def pv (rs : List Nat) : List Value := rs.map fun r => Value.pointer (some ⟨r, 0, none⟩)
theorem pv_len (l : List Nat) : (pv l).length = l.length := by unfold pv; simp
theorem pv_app (l l' : List Nat) : pv (l ++ l') = pv l ++ pv l' := by unfold pv; simp
theorem pv_one (l : List Nat) : ∀ u ∈ pv l, u.oneCell' = true := by
  intro u hu
  obtain ⟨x, _, rfl⟩ := List.mem_map.1 hu
  rfl
/-- Readers of lines. -/
def Rds (w : World) (rs : List Nat) (ls : List ByteArray) : Prop := ∀ (i r : Nat), rs[i]? = some r → ∃ l, ls[i]? = some l ∧ Rd w r (words l)
theorem Rds.kept {w w' : World} {rs : List Nat} {ls : List ByteArray} {S : Nat → Prop} (h : Rds w rs ls) (k : Keeps S w w') (hr : ∀ r ∈ rs, ¬ S r) (hs : ∀ g cur, w.heap[g]? = some (.cells cur 9 (0, 0)) → ¬ S g) : Rds w' rs ls := by
  intro i r hi
  obtain ⟨l, hl, hR⟩ := h i r hi
  exact ⟨l, hl, hR.kept k (hr r (List.mem_of_getElem? hi)) hs⟩
theorem infoP' : (Tryz.prog.info? 112).map (fun i => (i.zero, i.size, i.bytes)) = some (some (.pointer none), 1, 8) := by kernel_rfl
theorem infoP : ∃ i, Tryz.prog.info? 112 = some i ∧ i.zero = some (.pointer none) ∧ i.size = 1 ∧ i.bytes = 8 := by
  have h := infoP'
  cases hi : Tryz.prog.info? 112 with
  | none => rw [hi] at h; cases h
  | some i =>
    rw [hi] at h
    simp at h
    exact ⟨i, rfl, h.1, h.2.1, h.2.2⟩
theorem words_some {l : ByteArray} (h : l ∈ Ls) : 0 < (words l).length ∧ l.size ≤ 100000 ∧ (words l).length ≤ 100 := by
  have : l = L0 ∨ l = L1 ∨ l = L2 ∨ l = L3 ∨ l = L4 := by simpa [Ls] using h
  rcases this with rfl | rfl | rfl | rfl | rfl
  · rw [words0]; decide
  · rw [words1]; decide
  · rw [words2]; decide
  · rw [words3]; decide
  · rw [words4]; decide
set_option maxRecDepth 100000 in
set_option maxHeartbeats 4000000 in
theorem lines_is (w : World) (T : Tabs w) : Calls Tryz.prog 50 #[.string T0] w fun e w' => ∃ (v : Value) (rs : List Nat), e = .returned (.tuple #[v, .int .i64 0]) ∧ rs.length = 5 ∧ Has w' 112 1 v 5 (pv rs) ∧ Rds w' rs Ls ∧ rs.Nodup ∧ (∀ r ∈ rs, w.heap.size ≤ r) ∧ (∀ b, v.ownBlock = some b → w.heap.size ≤ b) ∧ Below w.heap.size w w' := by
  obtain ⟨m, hm⟩ := T.ml
  obtain ⟨i0, hI0, hz0, hz1, hz2⟩ := infoP
  have CS := Tryz.strings_CutSuffix T0 ⟨#[10]⟩ w (by rw [sz0]; omega)
  rw [cut0, suf0] at CS
  have CP := Tryz.strings_Split T0 ⟨#[10]⟩ m w (by rw [sz0]; omega) hm (by decide)
  rw [cnt0, spl0] at CP
  have hsz := sz0
  have X := Blk.new w 9 (Ls.map Value.string)
  have hcell := Lib.hid (fun i l (hi : Ls[i]? = some l) => X.cellAt (i := i) (v := .string l) (by rw [List.getElem?_map, hi]; rfl))
  have B1 := (Below.refl w.heap.size w).alloc (Nat.le_refl _) (.cells (Ls.map Value.string).toArray 9)
  have hl5 : Ls.length = 5 := rfl
  have hws := Lib.hid (fun l (hl : l ∈ Ls) => words_some hl)
  have HT := Lib.hid T
  have hlt := Lib.hid X.lt
  clear T hm X
  generalize Ls = ls at *
  generalize T0 = t at *
  go_enter Tryz.func50, Tryz.ntmps50
  go_upto_region 5 with (first | (go_at_call 86; refine CS.mono ?_; rintro e w2 ⟨rfl, rfl⟩) | (go_at_call 87; refine CP.mono ?_; rintro e w3 ⟨rfl, rfl⟩))
  generalize w2.alloc (.cells (ls.map Value.string).toArray 9) = w3 at *
  have HB1 := Lib.hid B1
  clear CS CP B1 hsz
  go_wp2_with fail
  go_loopw [5, 24] (fun v i wr => ∃ (k : Nat) (rs : List Nat), k ≤ 5 ∧ i = .int .i64 (k : Int) ∧ rs.length = k ∧ Below w3.heap.size w3 wr ∧ wr.ownsRow w3.heap.size 112 1 v k (pv rs) ∧ Rds wr rs ls ∧ rs.Nodup ∧ (∀ r ∈ rs, w3.heap.size ≤ r ∧ r < wr.heap.size)) (fun _ i _ => 5 - (intOf i).toNat)
  case atStart => exact ⟨0, [], by omega, rfl, rfl, Below.refl _ _, ⟨rfl, .inl ⟨rfl, rfl⟩⟩, fun i r h => by simp at h, List.nodup_nil, fun r h => by cases h⟩
  case round =>
    obtain ⟨k, rs, hk, rfl, hrl, B, O, hR, hnd, hge⟩ := hrel
    by_cases hlt5 : k < 5
    · have hi0 : (0 : Int) ≤ (k : Int) := by omega
      have hi1 : (k : Int) < 5 := by omega
      have hi2 : (k : Int) + 1 ≤ 9223372036854775807 := by omega
      obtain ⟨l, hl⟩ : ∃ l, ls[k]? = some l := ⟨_, List.getElem?_eq_getElem (by omega)⟩
      obtain ⟨hw0, hls, hw1⟩ := hws.out l (List.mem_of_getElem? hl)
      have cx := (B.cell (World.block_lt_of_cell? _ _ (hcell.out k l hl))).trans (hcell.out k l hl)
      have CR := read_is l wr hls
      obtain ⟨AS, cS, hsv⟩ := own_shape O
      subst hsv
      have hB0 := Lib.hid B.size
      have HB := Lib.hid B
      have HO := Lib.hid O
      have HR := Lib.hid hR
      have HND := Lib.hid hnd
      have HGE := Lib.hid hge
      have HL := Lib.hid hl
      have HRL := Lib.hid hrl
      clear B O hR hnd hge hl hrl
      go_upto_region 12 with (go_at_call 88; refine CR.mono ?_; rintro e w4 ⟨r, rfl, hRd, hr1, hb4⟩)
      obtain ⟨A, c, hb, hh⟩ := hRd
      have c0 : w4.cell? ⟨r, 0, none⟩ = some (.slice A (words l).length c) := hb.cellAt (i := 0) rfl
      have hRd' : Rd w4 r (words l) := ⟨A, c, hb, hh⟩
      have hw2 : (0 : Int) < ((words l).length : Int) := by omega
      have B4 := HB.out.trans (hb4.mono HB.out.size)
      have O4 := own_below HO.out hb4
      have hR4 : Rds w4 rs ls := fun i r hi => by obtain ⟨l, hl, h⟩ := HR.out i r hi; exact ⟨l, hl, h.down hb4⟩
      have HB4 := Lib.hid B4
      have HO4 := Lib.hid O4
      have HR4 := Lib.hid hR4
      have HRd := Lib.hid hRd'
      have hsz4 := Lib.hid hb4.size
      clear hb hh hRd' B4 O4 hR4 hb4 CR HB HO HR cx
      generalize (words l).length = q at *
      go_upto_region 13 with fail
      have O5 := own_below HO4.out ((Below.refl w4.heap.size w4).alloc (Nat.le_refl _) (.cells #[.pointer (some ⟨r, 0, none⟩)] 112))
      have hsz5 := Nat.le_trans HB4.out.size (show w4.heap.size ≤ (w4.alloc (.cells #[.pointer (some ⟨r, 0, none⟩)] 112)).heap.size by simp)
      go_wp2_with (at_builtin; refine wpList_append_has rfl (.tmp 36) (.tmp 38) 105 rfl i0 _ 8 Tryz.underlying105 hI0 hz0 hz1 hz2 rfl (by decide) rfl O5 (some ⟨w4.heap.size, 0, none⟩) 1 1 [.pointer (some ⟨r, 0, none⟩)] rfl (Has.box w4 112 1 1 [.pointer (some ⟨r, 0, none⟩)] rfl (by unfold maxLen; omega)) (pv_one [r]) (by unfold maxLen; omega) (by omega) hsz5 ?_; intro v6 w6 own6 g6 at6; obtain ⟨A6, c6, hv6⟩ := own_shape own6; subst hv6; have OWN6 := Lib.hid own6; have KK := Lib.hid (keeps_grown ((Keeps.refl (fun b => (Value.slice AS k cS).ownBlock = some b) w4).alloc (.cells #[.pointer (some ⟨r, 0, none⟩)] 112)) g6 (fun g hg => .inl hg)); clear own6 g6 at6 O5)
      go_roundw
      case rel =>
        have hrd := HRd.out
        have hSr : ∀ x ws, Rd w4 x ws → ¬ (Value.slice AS k cS).ownBlock = some x := fun x ws h e => by
          obtain ⟨A, c, hb, _⟩ := h
          exact own_type_ne HO4.out hb (by decide) e
        have hSs : ∀ g cur, w4.heap[g]? = some (.cells cur 9 (0, 0)) → ¬ (Value.slice AS k cS).ownBlock = some g := fun g cur hg e => by
          rcases HO4.out.2 with ⟨h0, _⟩ | ⟨g', cap, cur', hv, _, hh, _⟩
          · rw [h0] at e; cases e
          · rw [hv] at e; cases e; rw [hg] at hh; injection hh with hh; injection hh with _ ht; exact absurd ht (by decide)
        have hR6 : Rds w6 (rs ++ [r]) ls := by
          intro i x hi
          rw [List.getElem?_append] at hi
          split at hi
          · obtain ⟨l', hl', h⟩ := HR4.out i x hi
            exact ⟨l', hl', h.kept KK.out (hSr x _ h) hSs⟩
          · rename_i hge
            have hi0 : i - rs.length = 0 := by
              rcases Nat.eq_zero_or_pos (i - rs.length) with h | h
              · exact h
              · rw [List.getElem?_eq_none (by simp; omega)] at hi; cases hi
            rw [hi0] at hi
            cases hi
            exact ⟨l, by rw [show i = k by have := HRL.out; omega]; exact HL.out, hrd.kept KK.out (hSr _ _ hrd) hSs⟩
        refine ⟨k + 1, rs ++ [r], by omega, by simp, by simp [HRL.out], below_keeps HB4.out KK.out HB4.out.size (fun b hb => (own_block_lt HO4.out b (ob_mem.2 hb)).1), by rw [pv_app]; exact OWN6.out, hR6, ?_, fun x hx => ?_⟩
        · refine List.nodup_append.2 ⟨HND.out, by simp, fun a ha b hb => ?_⟩
          simp at hb
          subst hb
          have := (HGE.out a ha).2
          omega
        · have hkk := KK.out.size
          have hz := hsz4.out
          rcases List.mem_append.1 hx with hx | hx
          · have := HGE.out x hx; omega
          · simp at hx
            subst hx
            have h1 := HB4.out.size
            have h2 := hrd.lt
            exact ⟨Nat.le_trans (show w3.heap.size ≤ wr.heap.size from hB0.out) hr1, by omega⟩
      case measure => simp [intOf]; omega
    · have hi1 : ¬ (k : Int) < 5 := by omega
      have hk5 : k = 5 := by omega
      subst hk5
      obtain ⟨AS, cS, hsv⟩ := own_shape O
      subst hsv
      have HB := Lib.hid B
      have HO := Lib.hid O
      have HR := Lib.hid hR
      have HND := Lib.hid hnd
      have HGE := Lib.hid hge
      have HRL := Lib.hid hrl
      clear B O hR hnd hge hrl
      go_wp2_with fail
      refine bodyPost_ret (v := .tuple #[.slice AS 5 cS, .int .i64 0]) (by simp [results, Tryz.results50, go_sem]) rfl ?_
      have h3 := HB1.out.size
      first | exact ⟨_, rs, rfl, HRL.out, Has.of_own HO.out, HR.out, HND.out, fun r hr => by have := (HGE.out r hr).1; omega, fun b hb => by have := (own_block_lt HO.out b (ob_mem.2 hb)).1; omega, HB1.out.trans (HB.out.mono h3)⟩ | exact ⟨_, rfl, rs, HRL.out, Has.of_own HO.out, HR.out, HND.out, fun r hr => by have := (HGE.out r hr).1; omega, fun b hb => by have := (own_block_lt HO.out b (ob_mem.2 hb)).1; omega, HB1.out.trans (HB.out.mono h3)⟩
end Aw
end Go.Proofs.YtbgiegecfapmlaaGreatDoor
