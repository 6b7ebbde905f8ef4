/- name.Words: what stands between blanks; conditions: at most a hundred thousand bytes. The reader of a line: word, may, whole, int, field; conditions: words as they come in the one text that is asked first. script.lines, at the one text that every law asks first; conditions: the library's tables as its text lays them. package policy at the way Robust; conditions: none. package exec at the way Robust: New, early, started, Submit; conditions: good jobs, the library's tables as its text lays them. -/
import Derived.Test.YtbgiegecfapmlaaGreatDoorName
import Derived.Test.YtbgiegecfapmlaaGreatDoorRunMem
import Derived.Deep.DeepCutAuto
import Derived.Test.YtbgiegecfapmlaaGreatDoorRunAll
import Derived.Test.YtbgiegecfapmlaaGreatDoorHeldU
namespace Go.Proofs.YtbgiegecfapmlaaGreatDoor
open Go.RowKit
set_option linter.unusedVariables false
set_option linter.unusedSimpArgs false
namespace Aw
open Rob (own_below own_block_lt ob_mem blk_below below_drew)
def isBl (r : Nat) : Bool := decide (r = 32) || decide (r = 9)
/-- The words from place p on; f: where the word that is open begins. -/
def wd (s : ByteArray) : Nat → Nat → Option Nat → List ByteArray
  | 0, _, some a => [s.extract a s.size]
  | 0, _, none => []
  | g + 1, p, f => if p < s.size then
      (if isBl (Utf8.decode s p).1 = true then (match f with | some a => s.extract a p :: wd s g (p + (Utf8.decode s p).2) none | none => wd s g (p + (Utf8.decode s p).2) none)
       else (match f with | some a => wd s g (p + (Utf8.decode s p).2) (some a) | none => wd s g (p + (Utf8.decode s p).2) (some p)))
    else (match f with | some a => [s.extract a s.size] | none => [])
def words (s : ByteArray) : List ByteArray := wd s s.size 0 none
theorem wd_end (s : ByteArray) (g p : Nat) (f : Option Nat) (h : ¬ p < s.size) : wd s g p f = (match f with | some a => [s.extract a s.size] | none => []) := by
  cases g with
  | zero => cases f <;> rfl
  | succ g => simp only [wd]; rw [if_neg h]
section
variable {s : ByteArray} {g p a : Nat}
theorem wd_bn (h : p < s.size) (hb : isBl (Utf8.decode s p).1 = true) : wd s (g + 1) p none = wd s g (p + (Utf8.decode s p).2) none := by simp only [wd]; rw [if_pos h, if_pos hb]
theorem wd_bs (h : p < s.size) (hb : isBl (Utf8.decode s p).1 = true) : wd s (g + 1) p (some a) = s.extract a p :: wd s g (p + (Utf8.decode s p).2) none := by simp only [wd]; rw [if_pos h, if_pos hb]
theorem wd_nn (h : p < s.size) (hb : isBl (Utf8.decode s p).1 = false) : wd s (g + 1) p none = wd s g (p + (Utf8.decode s p).2) (some p) := by simp only [wd]; rw [if_pos h, if_neg (by rw [hb]; simp)]
theorem wd_ns (h : p < s.size) (hb : isBl (Utf8.decode s p).1 = false) : wd s (g + 1) p (some a) = wd s g (p + (Utf8.decode s p).2) (some a) := by simp only [wd]; rw [if_pos h, if_neg (by rw [hb]; simp)]
end
def fromV : Option Nat → Value
  | some a => .int .i64 (a : Int)
  | none => .int .i64 (-1)
def sv (l : List ByteArray) : List Value := l.map Value.string
theorem sv_one (l : List ByteArray) : ∀ u ∈ sv l, u.oneCell' = true := by
  intro u hu
  obtain ⟨x, _, rfl⟩ := List.mem_map.1 hu
  rfl
theorem sv_app (l l' : List ByteArray) : sv (l ++ l') = sv l ++ sv l' := by unfold sv; simp
theorem sv_len (l : List ByteArray) : (sv l).length = l.length := by unfold sv; simp
theorem infoS' : (Tryz.prog.info? 9).map (fun i => (i.zero, i.size, i.bytes)) = some (some (.string ByteArray.empty), 1, 16) := by kernel_rfl
theorem infoS : ∃ i, Tryz.prog.info? 9 = some i ∧ i.zero = some (.string ByteArray.empty) ∧ i.size = 1 ∧ i.bytes = 16 := by
  have h := infoS'
  cases hi : Tryz.prog.info? 9 with
  | none => rw [hi] at h; cases h
  | some i =>
    rw [hi] at h
    simp at h
    exact ⟨i, rfl, h.1, h.2.1, h.2.2⟩
set_option maxRecDepth 100000 in
set_option maxHeartbeats 4000000 in
theorem words_is (s : ByteArray) (w : World) (hs : s.size ≤ 100000) :
    Calls Tryz.prog 125 #[.string s] w fun e w' => ∃ v, e = .returned v ∧ w'.ownsRow w.heap.size 9 1 v (words s).length (sv (words s)) ∧ Below w.heap.size w w' := by
  obtain ⟨i0, hI0, hz0, hz1, hz2⟩ := infoS
  obtain ⟨W, hW⟩ : ∃ W, words s = W := ⟨_, rfl⟩
  rw [hW]
  have HW := Lib.hid hW
  have HS := Lib.hid hs
  clear hW
  go_enter Tryz.func125, Tryz.ntmps125
  go_wp2_with fail
  go_loopg [3, 4] s.size (fun g v fv wr => ∃ (p : Nat) (f : Option Nat) (ws : List ByteArray), fv = fromV f ∧ wr.heap[w.heap.size]? = some (.stringIter s p) ∧ Below w.heap.size w wr ∧ wr.ownsRow (w.heap.size + 1) 9 1 v ws.length (sv ws) ∧ Hid (ws ++ wd s g p f = W) ∧ s.size ≤ p + g ∧ (ws.length ≤ p ∧ ws.length ≤ s.size) ∧ (∀ a, f = some a → a ≤ p ∧ a < s.size))
  case atStart => exact ⟨0, none, [], rfl, World.iter_heap w s 0, (Below.refl _ w).alloc (Nat.le_refl _) _, ⟨rfl, .inl ⟨rfl, rfl⟩⟩, Lib.hid HW.out, by omega, by simp, fun a h => by cases h⟩
  case round =>
    obtain ⟨p, f, ws, rfl, hit, B, O, HR, hk, ⟨hwl, hws⟩, hf⟩ := hrel
    have hsz : w.heap.size < wr.heap.size := (Array.getElem?_eq_some_iff.1 hit).1
    by_cases hp : p < s.size
    · obtain ⟨g, rfl⟩ : ∃ g, gk = g + 1 := ⟨gk - 1, by omega⟩
      have hnx : ∀ ty, (Instr.next (.pointer (some ⟨w.heap.size, 0, none⟩)) true ty).run Tryz.prog wr = _ := fun ty => Lib.run_next_any_at wr w.heap.size s p ty hit hp
      have hwd := Lib.width_pos s p
      obtain ⟨r, hrr⟩ : ∃ r, (Utf8.decode s p).1 = r := ⟨_, rfl⟩
      obtain ⟨K, hK⟩ : ∃ K, (Utf8.decode s p).2 = K := ⟨_, rfl⟩
      rw [hrr, hK] at hnx
      have HRR := Lib.hid hrr
      have HKK := Lib.hid hK
      have HP := Lib.hid hp
      rw [hK] at hwd
      have hit2 := Lib.iterAt_heap wr w.heap.size s p (p + K) hit
      have B2 := Lib.below_iterAt B (k := w.heap.size) (Nat.le_refl _) s (p + K)
      have kI : Keeps (fun b => b = w.heap.size) wr (wr.iterAt w.heap.size s (p + K)) := by
        refine ⟨rfl, rfl, rfl, by simp [World.iterAt], fun i hi hne => ?_⟩
        simp [World.iterAt, Array.getElem?_setIfInBounds, Ne.symm hne]
      have O2 := own_kept O kI (fun g _ _ hg e => by have := (own_block_lt O g (ob_mem.2 hg)).1; omega)
      have hps := Lib.hid (show (p + K + g ≥ s.size ∧ ws.length + 1 ≤ p + K) ∧ ws.length + 1 ≤ s.size by omega)
      obtain ⟨bl, hbl⟩ : ∃ b, isBl r = b := ⟨_, rfl⟩
      have HBL := Lib.hid hbl
      have HF := Lib.hid hf
      have HIT := Lib.hid hit2
      have HB2 := Lib.hid B2
      have HO2 := Lib.hid O2
      have hwl2 : ws.length ≤ 100000 := by omega
      have hp1 : (p : Int) ≤ (s.size : Int) := by omega
      have hp0 : (0 : Int) ≤ (p : Int) := by omega
      clear hbl hf hit2 B2 O2 hrr hK hwd kI hit B O hk hwl hsz
      go_upto_region 6 with fail
      clear hnx
      generalize wr.iterAt w.heap.size s (p + K) = w2 at *
      go_cut [7] (fun v wx => v = .bool bl ∧ wx = w2)
      case first =>
        by_cases h1 : r = 32
        · subst h1
          have e : bl = true := by rw [← HBL.out]; rfl
          subst e
          go_wp2_with fail
          go_meet
          case rel => exact ⟨rfl, rfl⟩
        · have q1 : ((r : Int) == 32) = false := by simp <;> omega
          have q1' : ¬ (r : Int) = 32 := by omega
          by_cases h2 : r = 9
          · subst h2
            have e : bl = true := by rw [← HBL.out]; rfl
            subst e
            go_wp2_with fail
            go_meet
            case rel => exact ⟨rfl, rfl⟩
          · have q2 : ((r : Int) == 9) = false := by simp <;> omega
            have q2' : ¬ (r : Int) = 9 := by omega
            have e : bl = false := by rw [← HBL.out]; unfold isBl; simp [h1, h2]
            subst e
            clear h1 h2
            go_wp2_with fail
            go_meet
            case rel => exact ⟨rfl, rfl⟩
      case rest =>
        obtain ⟨rfl, rfl⟩ := hcut
        cases bl with
        | true =>
          cases f with
          | none =>
            have HR2 : Hid (ws ++ wd s g (p + K) none = W) := Lib.hid (by rw [← HR.out, wd_bn HP.out (by rw [HRR.out, HBL.out]), HKK.out])
            unfold fromV
            clear HR
            go_wp2_with fail
            go_roundg g
            case measure => omega
            case rel => exact ⟨p + K, none, ws, rfl, HIT.out, HB2.out, HO2.out, HR2, by have := hps.out; omega, by have := hps.out; exact ⟨by omega, by omega⟩, fun a h => by cases h⟩
          | some a =>
            have HR2 : Hid ((ws ++ [s.extract a p]) ++ wd s g (p + K) none = W) := Lib.hid (by rw [← HR.out, wd_bs HP.out (by rw [HRR.out, HBL.out]), HKK.out]; simp)
            have ha := HF.out a rfl
            have ha0 : (0 : Int) ≤ (a : Int) := by omega
            have ha1 : (a : Int) ≤ (p : Int) := by omega
            obtain ⟨AS, cS, hsv⟩ := own_shape HO2.out
            subst hsv
            unfold fromV
            clear HR
            go_upto_region 8 with fail
            have O5 := own_below HO2.out ((Below.refl wc.heap.size wc).alloc (Nat.le_refl _) (.cells #[.string (s.extract a p)] 9))
            have hsz5 : w.heap.size + 1 ≤ (wc.alloc (.cells #[.string (s.extract a p)] 9)).heap.size := by have := (Array.getElem?_eq_some_iff.1 HIT.out).1; simp; omega
            go_wp2_with (at_builtin; refine wpList_append_has rfl (.tmp 26) (.tmp 31) 41 rfl i0 _ 16 Tryz.underlying41 hI0 hz0 hz1 hz2 rfl (by decide) rfl O5 (some ⟨wc.heap.size, 0, none⟩) 1 1 [.string (s.extract a p)] rfl (Has.box wc 9 1 1 [.string (s.extract a p)] rfl (by unfold maxLen; omega)) (sv_one [(s.extract a p)]) (by unfold maxLen; omega) (by omega) hsz5 ?_; intro v6 w6 own6 g6 at6; obtain ⟨A6, c6, hv6⟩ := own_shape own6; subst hv6; have OWN6 := Lib.hid own6; have KK := Lib.hid (keeps_grown ((Keeps.refl (fun b => (Value.slice AS ws.length cS).ownBlock = some b) wc).alloc (.cells #[.string (s.extract a p)] 9)) g6 (fun g hg => .inl hg)); clear own6 g6 at6 O5)
            go_roundg g
            case measure => omega
            case rel =>
              have hob := fun b (hb : (Value.slice AS ws.length cS).ownBlock = some b) => (own_block_lt HO2.out b (ob_mem.2 hb)).1
              exact ⟨p + K, none, ws ++ [s.extract a p], rfl, (KK.out.block w.heap.size (Array.getElem?_eq_some_iff.1 HIT.out).1 (fun e => by have := hob _ e; omega)).trans HIT.out, below_keeps HB2.out KK.out HB2.out.size (fun b hb => by have := hob b hb; omega), by rw [List.length_append, sv_app]; exact OWN6.out, HR2, by have := hps.out; omega, by have := hps.out; rw [List.length_append]; exact ⟨by show ws.length + 1 ≤ _; omega, by show ws.length + 1 ≤ _; omega⟩, fun a h => by cases h⟩
        | false =>
          cases f with
          | none =>
            have HR2 : Hid (ws ++ wd s g (p + K) (some p) = W) := Lib.hid (by rw [← HR.out, wd_nn HP.out (by rw [HRR.out, HBL.out]), HKK.out])
            unfold fromV
            clear HR
            go_wp2_with fail
            go_roundg g
            case measure => omega
            case rel => exact ⟨p + K, some p, ws, rfl, HIT.out, HB2.out, HO2.out, HR2, by have := hps.out; omega, by have := hps.out; exact ⟨by omega, by omega⟩, fun a h => by cases h; omega⟩
          | some a =>
            have HR2 : Hid (ws ++ wd s g (p + K) (some a) = W) := Lib.hid (by rw [← HR.out, wd_ns HP.out (by rw [HRR.out, HBL.out]), HKK.out])
            have ha0 : (0 : Int) ≤ (a : Int) := by omega
            have ha1 : ¬ (a : Int) < 0 := by omega
            unfold fromV
            clear HR
            go_wp2_with fail
            go_roundg g
            case measure => omega
            case rel => exact ⟨p + K, some a, ws, rfl, HIT.out, HB2.out, HO2.out, HR2, by have := hps.out; omega, by have := hps.out; exact ⟨by omega, by omega⟩, fun b h => by cases h; have := HF.out a rfl; omega⟩
    · have hnx : ∀ ty, (Instr.next (.pointer (some ⟨w.heap.size, 0, none⟩)) true ty).run Tryz.prog wr = _ := fun ty => Lib.run_next_end_at wr w.heap.size s p ty hit hp
      have hr := HR.out
      rw [wd_end s gk p f hp] at hr
      have hs2 := HS.out
      cases f with
      | none =>
        have hr2 : Hid (ws = W) := Lib.hid (by simpa using hr)
        unfold fromV
        have HO := Lib.hid O
        have HB := Lib.hid B
        clear hr HR hit O B hf
        go_wp2_with fail
        go_ret
        exact ⟨_, rfl, by rw [← hr2.out]; exact ⟨HO.out.1, HO.out.2.imp id fun ⟨g, cap, cur, hv, hg, hrr⟩ => ⟨g, cap, cur, hv, by omega, hrr⟩⟩, HB.out⟩
      | some a =>
        have hr2 : Hid (ws ++ [s.extract a s.size] = W) := Lib.hid hr
        have ha := hf a rfl
        have ha0 : (0 : Int) ≤ (a : Int) := by omega
        have ha1 : (a : Int) ≤ (s.size : Int) := by omega
        obtain ⟨AS, cS, hsv⟩ := own_shape O
        subst hsv
        unfold fromV
        have HO := Lib.hid O
        have HB := Lib.hid B
        have hsz5 : w.heap.size + 1 ≤ (wr.alloc (.cells #[.string (s.extract a s.size)] 9)).heap.size := by simp; omega
        clear hr HR hit O B hf
        have O5 := own_below HO.out ((Below.refl wr.heap.size wr).alloc (Nat.le_refl _) (.cells #[.string (s.extract a s.size)] 9))
        go_wp2_with (at_builtin; refine wpList_append_has rfl (.tmp 43) (.tmp 47) 41 rfl i0 _ 16 Tryz.underlying41 hI0 hz0 hz1 hz2 rfl (by decide) rfl O5 (some ⟨wr.heap.size, 0, none⟩) 1 1 [.string (s.extract a s.size)] rfl (Has.box wr 9 1 1 [.string (s.extract a s.size)] rfl (by unfold maxLen; omega)) (sv_one [(s.extract a s.size)]) (by unfold maxLen; omega) (by omega) hsz5 ?_; intro v6 w6 own6 g6 at6; obtain ⟨A6, c6, hv6⟩ := own_shape own6; subst hv6; have OWN6 := Lib.hid own6; have KK := Lib.hid (keeps_grown ((Keeps.refl (fun b => (Value.slice AS ws.length cS).ownBlock = some b) wr).alloc (.cells #[.string (s.extract a s.size)] 9)) g6 (fun g hg => .inl hg)); clear own6 g6 at6 O5)
        go_ret
        have hob := fun b (hb : (Value.slice AS ws.length cS).ownBlock = some b) => (own_block_lt HO.out b (ob_mem.2 hb)).1
        refine ⟨_, rfl, ?_, below_keeps HB.out KK.out HB.out.size (fun b hb => by have := hob b hb; omega)⟩
        rw [← hr2.out, List.length_append, sv_app]
        exact ⟨OWN6.out.1, OWN6.out.2.imp id fun ⟨g, cap, cur, hv, hg, hrr⟩ => ⟨g, cap, cur, hv, by omega, hrr⟩⟩
end Aw
end Go.Proofs.YtbgiegecfapmlaaGreatDoor

namespace Go.Proofs.YtbgiegecfapmlaaGreatDoor
open Go.RowKit
set_option linter.unusedVariables false
set_option linter.unusedSimpArgs false
namespace Aw
open Rob (own_below own_block_lt ob_mem blk_below below_drew)
/-- A reader at block r, that has yet to give the words ws; none was bad. -/
def Rd (w : World) (r : Nat) (ws : List ByteArray) : Prop := ∃ A c, Blk w r 170 [.slice A ws.length c, .bool false] ∧ Has w 9 1 (.slice A ws.length c) ws.length (sv ws)
theorem Rd.lt {w : World} {r : Nat} {ws : List ByteArray} (h : Rd w r ws) : r < w.heap.size := by
  obtain ⟨A, c, hb, _⟩ := h
  exact hb.lt
theorem Rd.kept {w w' : World} {r : Nat} {ws : List ByteArray} {S : Nat → Prop} (h : Rd w r ws) (k : Keeps S w w') (hr : ¬ S r) (hs : ∀ g cur, w.heap[g]? = some (.cells cur 9 (0, 0)) → ¬ S g) : Rd w' r ws := by
  obtain ⟨A, c, hb, hh⟩ := h
  exact ⟨A, c, hb.kept k hr, hh.kept k (fun g cur hg _ => hs g cur hg)⟩
theorem Has.down' {w w' : World} {e : TypeId} {size n : Nat} {v : Value} {cs : List Value} (h : Has w e size v n cs) (hb : Below w.heap.size w w') : Has w' e size v n cs := by
  refine ⟨h.1, ?_⟩
  rcases h.2 with h0 | ⟨g, off, cap, cur, rfl, hnc, hcm, hg, hc⟩
  · exact .inl h0
  · have hlt : g < w.heap.size := (Array.getElem?_eq_some_iff.1 hg).1
    exact .inr ⟨g, off, cap, cur, rfl, hnc, hcm, (hb.block g hlt).trans hg, hc⟩
theorem Rd.down {w w' : World} {r : Nat} {ws : List ByteArray} (h : Rd w r ws) (hb : Below w.heap.size w w') : Rd w' r ws := by
  obtain ⟨A, c, hbk, hh⟩ := h
  exact ⟨A, c, blk_below hbk hb, Has.down' hh hb⟩
set_option maxRecDepth 100000 in
theorem whole_end {w : World} {r : Nat} (h : Rd w r []) : Calls Tryz.prog 52 #[.pointer (some ⟨r, 0, none⟩)] w fun e w' => e = .returned (.bool true) ∧ w' = w := by
  obtain ⟨A, c, hb, hh⟩ := h
  have c0 : w.cell? ⟨r, 0, none⟩ = some (.slice A 0 c) := hb.cellAt (i := 0) rfl
  have c1 := hb.cellAt (i := 1) rfl
  clear hb hh
  go_enter Tryz.func52, Tryz.ntmps52
  go_wp2_with fail
  go_ret
  exact ⟨rfl, rfl⟩
set_option maxRecDepth 100000 in
theorem may_end {w : World} {r : Nat} (h : Rd w r []) (s : ByteArray) : Calls Tryz.prog 96 #[.pointer (some ⟨r, 0, none⟩), .string s] w fun e w' => e = .returned (.bool false) ∧ w' = w := by
  obtain ⟨A, c, hb, hh⟩ := h
  have c0 : w.cell? ⟨r, 0, none⟩ = some (.slice A 0 c) := hb.cellAt (i := 0) rfl
  clear hb hh
  go_enter Tryz.func96, Tryz.ntmps96
  go_wp2_with fail
  go_ret
  exact ⟨rfl, rfl⟩
set_option maxRecDepth 100000 in
set_option maxHeartbeats 1000000 in
theorem word_is {w : World} {r : Nat} {x : ByteArray} {ws : List ByteArray} (h : Rd w r (x :: ws)) (hl : ws.length ≤ 1000) :
    Calls Tryz.prog 89 #[.pointer (some ⟨r, 0, none⟩)] w fun e w' => e = .returned (.string x) ∧ Rd w' r ws ∧ Keeps (· = r) w w' := by
  obtain ⟨A, c, hb, hh⟩ := h
  have c0 : w.cell? ⟨r, 0, none⟩ = some (.slice A (ws.length + 1) c) := hb.cellAt (i := 0) rfl
  have fr := hb.frozen
  obtain ⟨g, off, hA, hc⟩ := hh.at_ (by simp)
  have cx := hc 0 (.string x) rfl
  rw [Nat.add_zero] at cx
  have hcap : ws.length + 1 ≤ c := by
    rcases hh.2 with ⟨_, h0⟩ | ⟨g', off', cap, cur, hv, hnc, _⟩
    · simp at h0
    · injection hv with _ _ hc2
      simp at hnc
      omega
  have hh' : Has w 9 1 (.slice A (ws.length + 1) c) (ws.length + 1) (.string x :: sv ws) := hh
  obtain ⟨h1, h2⟩ := cut_first hh'
  have hn0 : ((ws.length : Int) + 1 == 0) = false := by simp <;> omega
  have hn1 : ¬ (ws.length : Int) + 1 = 0 := by omega
  have hn2 : (0 : Int) < (ws.length : Int) + 1 := by omega
  have hn3 : (1 : Int) ≤ (ws.length : Int) + 1 := by omega
  have hn4 : (ws.length : Int) + 1 ≤ (c : Int) := by omega
  have HB := Lib.hid hb
  have H1 := Lib.hid h1
  have H2 := Lib.hid h2
  subst hA
  clear hb hh hh' hc h1 h2
  go_enter Tryz.func89, Tryz.ntmps89
  go_wp2_with fail
  all_goals go_ret
  · exact ⟨rfl, ⟨_, _, HB.out.set_ 0 _, (H1.out ‹_›).kept ((keep1 r w).setCell ⟨r, 0, none⟩ (.inl rfl) _) (fun g cur hg _ => own_ne HB.out (by decide) g cur hg)⟩, (keep1 r w).setCell _ (.inl rfl) _⟩
  · exact ⟨rfl, ⟨_, _, HB.out.set_ 0 _, (H2.out ‹_›).kept ((keep1 r w).setCell ⟨r, 0, none⟩ (.inl rfl) _) (fun g cur hg _ => own_ne HB.out (by decide) g cur hg)⟩, (keep1 r w).setCell _ (.inl rfl) _⟩
/-- A number of one digit. -/
def dg (d : Nat) : ByteArray := ⟨#[(48 + d).toUInt8]⟩
set_option maxRecDepth 100000 in
set_option maxHeartbeats 4000000 in
theorem num_one (w : World) (d : Nat) (hd : d < 6) : Calls Tryz.prog 126 #[.string (dg d)] w fun e w' => e = .returned (.tuple #[.int .i64 (d : Int), .bool true]) ∧ Below w.heap.size w w' := by
  have CP := Tryz.strings_CutPrefix (dg d) ⟨#[45]⟩ w
  have e1 : (⟨(Lib.trimPrefix (dg d).data.toList (⟨#[45]⟩ : ByteArray).data.toList).toArray⟩ : ByteArray) = dg d := by
    have : d = 0 ∨ d = 1 ∨ d = 2 ∨ d = 3 ∨ d = 4 ∨ d = 5 := by omega
    rcases this with rfl | rfl | rfl | rfl | rfl | rfl <;> rfl
  have e2 : Lib.hasPrefix (dg d).data.toList (⟨#[45]⟩ : ByteArray).data.toList = false := by
    have : d = 0 ∨ d = 1 ∨ d = 2 ∨ d = 3 ∨ d = 4 ∨ d = 5 := by omega
    rcases this with rfl | rfl | rfl | rfl | rfl | rfl <;> rfl
  rw [e1, e2] at CP
  have hsz : (dg d).size = 1 := rfl
  have hdec : Utf8.decode (dg d) 0 = (48 + d, 1) := by
    have : d = 0 ∨ d = 1 ∨ d = 2 ∨ d = 3 ∨ d = 4 ∨ d = 5 := by omega
    rcases this with rfl | rfl | rfl | rfl | rfl | rfl <;> decide
  have CD := fun W => Nm.digit_is (48 + d) (by omega) W
  have hdig : Nm.dig (48 + d) = true := by unfold Nm.dig; simp; omega
  rw [hdig] at CD
  generalize dg d = s at *
  clear e1 e2 hdig
  go_enter Tryz.func126, Tryz.ntmps126
  go_wp2_with (go_at_call 153; refine CP.mono ?_; rintro e w2 ⟨rfl, rfl⟩)
  go_loopg [6] 1 (fun g v wr => ∃ (p n : Nat), v = .int .i64 (n : Int) ∧ wr.heap[w2.heap.size]? = some (.stringIter s p) ∧ Below w2.heap.size w2 wr ∧ (p = 0 ∧ n = 0 ∧ g = 1 ∨ p = 1 ∧ n = d))
  case atStart => exact ⟨0, 0, rfl, World.iter_heap w2 s 0, (Below.refl _ w2).alloc (Nat.le_refl _) _, .inl ⟨rfl, rfl, rfl⟩⟩
  case round =>
    obtain ⟨p, n, rfl, hit, B, hc⟩ := hrel
    rcases hc with ⟨rfl, rfl, rfl⟩ | ⟨rfl, rfl⟩
    · have hnx : ∀ ty, (Instr.next (.pointer (some ⟨w2.heap.size, 0, none⟩)) true ty).run Tryz.prog wr = _ := fun ty => Lib.run_next_any_at wr w2.heap.size s 0 ty hit (by omega)
      rw [hdec] at hnx
      have hit2 := Lib.hid (Lib.iterAt_heap wr w2.heap.size s 0 (0 + 1) hit)
      have B2 := Lib.hid (Lib.below_iterAt B (k := w2.heap.size) (Nat.le_refl _) s (0 + 1))
      clear hit B hdec CP
      go_wp2_with (go_at_call 108; refine (CD _).mono ?_; rintro e w3 ⟨rfl, rfl⟩)
      go_roundg 0
      case measure => omega
      case rel => exact ⟨1, d, by rw [show (48 + (d : Int) - 48) = d by omega], hit2.out, B2.out, .inr ⟨rfl, rfl⟩⟩
    · have hnx : ∀ ty, (Instr.next (.pointer (some ⟨w2.heap.size, 0, none⟩)) true ty).run Tryz.prog wr = _ := fun ty => Lib.run_next_end_at wr w2.heap.size s 1 ty hit (by omega)
      have HB := Lib.hid B
      clear hit B hdec CP
      go_wp2_with fail
      exact bodyPost_ret (v := .tuple #[.int .i64 (n : Int), .bool true]) (by simp [results, Tryz.results126, go_sem]) rfl ⟨rfl, HB.out⟩
theorem keeps_of {w w' : World} (b : Below w.heap.size w w') (S : Nat → Prop) : Keeps S w w' := ⟨b.os, b.tape, b.output, b.size, fun i hi _ => b.block i hi⟩
set_option maxRecDepth 100000 in
set_option maxHeartbeats 1000000 in
theorem number_is {w : World} {r d : Nat} {ws : List ByteArray} (h : Rd w r (dg d :: ws)) (hl : ws.length ≤ 1000) (hd : d < 6) :
    Calls Tryz.prog 90 #[.pointer (some ⟨r, 0, none⟩)] w fun e w' => e = .returned (.int .i64 (d : Int)) ∧ Rd w' r ws ∧ Keeps (· = r) w w' := by
  have CW := word_is h hl
  have CN := fun W => num_one W d hd
  have hr := Lib.hid h.lt
  clear h
  generalize dg d = s at *
  go_enter Tryz.func90, Tryz.ntmps90
  go_upto_region 2 with (first | (go_at_call 89; refine CW.mono ?_; rintro e w2 ⟨rfl, h2, k2⟩) | (go_at_call 126; refine (CN _).mono ?_; rintro e w3 ⟨rfl, b3⟩))
  have h3 := h2.down b3
  have K3 := k2.trans (keeps_of b3 (fun _ => False)) (fun _ _ h => h.elim)
  obtain ⟨A, c, hb, hh⟩ := h3
  have c1 := hb.cellAt (i := 1) rfl
  have fr := hb.frozen
  have HB := Lib.hid hb
  have HH := Lib.hid hh
  have HK := Lib.hid K3
  clear hb hh K3 h2 k2 b3
  go_wp2_with fail
  go_ret
  have kk := (keep1 r w3).setCell ⟨r, 1, none⟩ (.inl rfl) (.bool false)
  exact ⟨rfl, ⟨A, c, HB.out.set_ 1 _, HH.out.kept kk (fun g cur hg _ => own_ne HB.out (by decide) g cur hg)⟩, HK.out.setCell _ (.inl rfl) _⟩
theorem int_is {w : World} {r d : Nat} {ws : List ByteArray} (h : Rd w r (dg d :: ws)) (hl : ws.length ≤ 1000) (hd : d < 6) :
    Calls Tryz.prog 98 #[.pointer (some ⟨r, 0, none⟩)] w fun e w' => e = .returned (.int .i64 (d : Int)) ∧ Rd w' r ws ∧ Keeps (· = r) w w' := by
  have CN := number_is h hl hd
  clear h
  go_enter Tryz.func98, Tryz.ntmps98
  go_wp2_with (go_at_call 90; refine CN.mono ?_; rintro e w2 ⟨rfl, h2, k2⟩)
  go_ret
  exact ⟨rfl, h2, k2⟩
/-- A word with a key of one letter: 'd=4'. -/
def kv (k : UInt8) (d : Nat) : ByteArray := ⟨#[k, 61, (48 + d).toUInt8]⟩
set_option maxRecDepth 100000 in
set_option maxHeartbeats 1000000 in
theorem field_is {w : World} {r d : Nat} {k : UInt8} {ws : List ByteArray} (h : Rd w r (kv k d :: ws)) (hl : ws.length ≤ 1000) (hd : d < 6) :
    Calls Tryz.prog 232 #[.pointer (some ⟨r, 0, none⟩), .string ⟨#[k]⟩] w fun e w' => e = .returned (.int .i64 (d : Int)) ∧ Rd w' r ws ∧ Keeps (· = r) w w' := by
  have CW := word_is h hl
  have CN := fun W => num_one W d hd
  have CP := fun W => Tryz.strings_CutPrefix (kv k d) ⟨#[k, 61]⟩ W
  have e1 : (⟨(Lib.trimPrefix (kv k d).data.toList (⟨#[k, 61]⟩ : ByteArray).data.toList).toArray⟩ : ByteArray) = dg d := by
    simp [kv, dg, Lib.trimPrefix, Lib.hasPrefix]
  have e2 : Lib.hasPrefix (kv k d).data.toList (⟨#[k, 61]⟩ : ByteArray).data.toList = true := by
    simp [kv, Lib.hasPrefix]
  rw [e1, e2] at CP
  have hr := Lib.hid h.lt
  have hap : (⟨#[k]⟩ : ByteArray) ++ ⟨#[61]⟩ = ⟨#[k, 61]⟩ := rfl
  clear h e1 e2
  generalize dg d = s at *
  generalize kv k d = t at *
  go_enter Tryz.func232, Tryz.ntmps232
  go_upto_region 3 with (first | (go_at_call 89; refine CW.mono ?_; rintro e w2 ⟨rfl, h2, k2⟩) | (go_at_call 153; refine (CP _).mono ?_; rintro e w2b ⟨rfl, rfl⟩) | (go_at_call 126; refine (CN _).mono ?_; rintro e w3 ⟨rfl, b3⟩))
  have h3 := h2.down b3
  have K3 := k2.trans (keeps_of b3 (fun _ => False)) (fun _ _ h => h.elim)
  obtain ⟨A, c, hb, hh⟩ := h3
  have c1 := hb.cellAt (i := 1) rfl
  have fr := hb.frozen
  have HB := Lib.hid hb
  have HH := Lib.hid hh
  have HK := Lib.hid K3
  clear hb hh K3 h2 k2 b3
  go_wp2_with fail
  go_ret
  have kk := (keep1 r w3).setCell ⟨r, 1, none⟩ (.inl rfl) (.bool false)
  exact ⟨rfl, ⟨A, c, HB.out.set_ 1 _, HH.out.kept kk (fun g cur hg _ => own_ne HB.out (by decide) g cur hg)⟩, HK.out.setCell _ (.inl rfl) _⟩
/-- read: a reader of a line's words. -/
theorem read_is (s : ByteArray) (w : World) (hs : s.size ≤ 100000) :
    Calls Tryz.prog 88 #[.string s] w fun e w' => ∃ r, e = .returned (.pointer (some ⟨r, 0, none⟩)) ∧ Rd w' r (words s) ∧ w.heap.size ≤ r ∧ Below w.heap.size w w' := by
  have CW := words_is s w hs
  go_enter Tryz.func88, Tryz.ntmps88
  go_wp2_with (go_at_call 125; refine CW.mono ?_; rintro e w2 ⟨v, rfl, own, b2⟩; obtain ⟨A, c, hv⟩ := own_shape own; subst hv)
  go_ret
  have X := Blk.new w2 170 [.slice A (words s).length c, .bool false]
  exact ⟨w2.heap.size, rfl, ⟨A, c, X, (Has.of_own own).kept ((Keeps.refl (fun _ => False) w2).alloc _) (fun _ _ _ _ h => h)⟩, b2.size, b2.alloc b2.size _⟩
end Aw
end Go.Proofs.YtbgiegecfapmlaaGreatDoor

namespace Go.Proofs.YtbgiegecfapmlaaGreatDoor
open Go.RowKit
set_option linter.unusedVariables false
set_option linter.unusedSimpArgs false
namespace Aw
open Rob (own_below own_block_lt ob_mem blk_below below_drew)
def T0 : ByteArray := ⟨#[114, 111, 98, 117, 115, 116, 10, 106, 111, 98, 32, 97, 32, 114, 61, 48, 32, 100, 61, 52, 32, 98, 61, 50, 32, 97, 61, 50, 32, 118, 61, 53, 32, 99, 61, 48, 10, 115, 116, 97, 114, 116, 10, 114, 117, 110, 32, 51, 10, 101, 97, 114, 110, 101, 100]⟩
def L0 : ByteArray := ⟨#[114, 111, 98, 117, 115, 116]⟩
def L1 : ByteArray := ⟨#[106, 111, 98, 32, 97, 32, 114, 61, 48, 32, 100, 61, 52, 32, 98, 61, 50, 32, 97, 61, 50, 32, 118, 61, 53, 32, 99, 61, 48]⟩
def L2 : ByteArray := ⟨#[115, 116, 97, 114, 116]⟩
def L3 : ByteArray := ⟨#[114, 117, 110, 32, 51]⟩
def L4 : ByteArray := ⟨#[101, 97, 114, 110, 101, 100]⟩
def Ls : List ByteArray := [L0, L1, L2, L3, L4]
theorem words0 : words L0 = [⟨#[114, 111, 98, 117, 115, 116]⟩] := by decide +kernel
theorem words1 : words L1 = [⟨#[106, 111, 98]⟩, ⟨#[97]⟩, ⟨#[114, 61, 48]⟩, ⟨#[100, 61, 52]⟩, ⟨#[98, 61, 50]⟩, ⟨#[97, 61, 50]⟩, ⟨#[118, 61, 53]⟩, ⟨#[99, 61, 48]⟩] := by decide +kernel
theorem words2 : words L2 = [⟨#[115, 116, 97, 114, 116]⟩] := by decide +kernel
theorem words3 : words L3 = [⟨#[114, 117, 110]⟩, ⟨#[51]⟩] := by decide +kernel
theorem words4 : words L4 = [⟨#[101, 97, 114, 110, 101, 100]⟩] := by decide +kernel
theorem cut0 : (⟨(Lib.trimSuffix T0.data.toList (⟨#[10]⟩ : ByteArray).data.toList).toArray⟩ : ByteArray) = T0 := by decide +kernel
theorem suf0 : Lib.hasSuffix T0.data.toList (⟨#[10]⟩ : ByteArray).data.toList = false := by decide +kernel
theorem cnt0 : Lib.countB T0 ⟨#[10]⟩ = 4 := by decide +kernel
theorem spl0 : Lib.splitB ⟨#[10]⟩ 0 4 T0 = Ls := by decide +kernel
theorem sz0 : T0.size = 55 := rfl
def pv (rs : List Nat) : List Value := rs.map fun r => Value.pointer (some ⟨r, 0, none⟩)
theorem pv_len (l : List Nat) : (pv l).length = l.length := by unfold pv; simp
theorem pv_app (l l' : List Nat) : pv (l ++ l') = pv l ++ pv l' := by unfold pv; simp
theorem pv_one (l : List Nat) : ∀ u ∈ pv l, u.oneCell' = true := by
  intro u hu
  obtain ⟨x, _, rfl⟩ := List.mem_map.1 hu
  rfl
/-- Readers of lines. -/
def Rds (w : World) (rs : List Nat) (ls : List ByteArray) : Prop := ∀ (i r : Nat), rs[i]? = some r → ∃ l, ls[i]? = some l ∧ Rd w r (words l)
theorem Rds.kept {w w' : World} {rs : List Nat} {ls : List ByteArray} {S : Nat → Prop} (h : Rds w rs ls) (k : Keeps S w w') (hr : ∀ r ∈ rs, ¬ S r) (hs : ∀ g cur, w.heap[g]? = some (.cells cur 9 (0, 0)) → ¬ S g) : Rds w' rs ls := by
  intro i r hi
  obtain ⟨l, hl, hR⟩ := h i r hi
  exact ⟨l, hl, hR.kept k (hr r (List.mem_of_getElem? hi)) hs⟩
theorem infoP' : (Tryz.prog.info? 112).map (fun i => (i.zero, i.size, i.bytes)) = some (some (.pointer none), 1, 8) := by kernel_rfl
theorem infoP : ∃ i, Tryz.prog.info? 112 = some i ∧ i.zero = some (.pointer none) ∧ i.size = 1 ∧ i.bytes = 8 := by
  have h := infoP'
  cases hi : Tryz.prog.info? 112 with
  | none => rw [hi] at h; cases h
  | some i =>
    rw [hi] at h
    simp at h
    exact ⟨i, rfl, h.1, h.2.1, h.2.2⟩
theorem words_some {l : ByteArray} (h : l ∈ Ls) : 0 < (words l).length ∧ l.size ≤ 100000 ∧ (words l).length ≤ 100 := by
  have : l = L0 ∨ l = L1 ∨ l = L2 ∨ l = L3 ∨ l = L4 := by simpa [Ls] using h
  rcases this with rfl | rfl | rfl | rfl | rfl
  · rw [words0]; decide
  · rw [words1]; decide
  · rw [words2]; decide
  · rw [words3]; decide
  · rw [words4]; decide
set_option maxRecDepth 100000 in
set_option maxHeartbeats 4000000 in
theorem lines_is (w : World) (T : Tabs w) : Calls Tryz.prog 50 #[.string T0] w fun e w' => ∃ (v : Value) (rs : List Nat), e = .returned (.tuple #[v, .int .i64 0]) ∧ rs.length = 5 ∧ Has w' 112 1 v 5 (pv rs) ∧ Rds w' rs Ls ∧ rs.Nodup ∧ (∀ r ∈ rs, w.heap.size ≤ r) ∧ (∀ b, v.ownBlock = some b → w.heap.size ≤ b) ∧ Below w.heap.size w w' := by
  obtain ⟨m, hm⟩ := T.ml
  obtain ⟨i0, hI0, hz0, hz1, hz2⟩ := infoP
  have CS := Tryz.strings_CutSuffix T0 ⟨#[10]⟩ w (by rw [sz0]; omega)
  rw [cut0, suf0] at CS
  have CP := Tryz.strings_Split T0 ⟨#[10]⟩ m w (by rw [sz0]; omega) hm (by decide)
  rw [cnt0, spl0] at CP
  have hsz := sz0
  have X := Blk.new w 9 (Ls.map Value.string)
  have hcell := Lib.hid (fun i l (hi : Ls[i]? = some l) => X.cellAt (i := i) (v := .string l) (by rw [List.getElem?_map, hi]; rfl))
  have B1 := (Below.refl w.heap.size w).alloc (Nat.le_refl _) (.cells (Ls.map Value.string).toArray 9)
  have hl5 : Ls.length = 5 := rfl
  have hws := Lib.hid (fun l (hl : l ∈ Ls) => words_some hl)
  have HT := Lib.hid T
  have hlt := Lib.hid X.lt
  clear T hm X
  generalize Ls = ls at *
  generalize T0 = t at *
  go_enter Tryz.func50, Tryz.ntmps50
  go_upto_region 5 with (first | (go_at_call 86; refine CS.mono ?_; rintro e w2 ⟨rfl, rfl⟩) | (go_at_call 87; refine CP.mono ?_; rintro e w3 ⟨rfl, rfl⟩))
  generalize w2.alloc (.cells (ls.map Value.string).toArray 9) = w3 at *
  have HB1 := Lib.hid B1
  clear CS CP B1 hsz
  go_wp2_with fail
  go_loopw [5, 24] (fun v i wr => ∃ (k : Nat) (rs : List Nat), k ≤ 5 ∧ i = .int .i64 (k : Int) ∧ rs.length = k ∧ Below w3.heap.size w3 wr ∧ wr.ownsRow w3.heap.size 112 1 v k (pv rs) ∧ Rds wr rs ls ∧ rs.Nodup ∧ (∀ r ∈ rs, w3.heap.size ≤ r ∧ r < wr.heap.size)) (fun _ i _ => 5 - (intOf i).toNat)
  case atStart => exact ⟨0, [], by omega, rfl, rfl, Below.refl _ _, ⟨rfl, .inl ⟨rfl, rfl⟩⟩, fun i r h => by simp at h, List.nodup_nil, fun r h => by cases h⟩
  case round =>
    obtain ⟨k, rs, hk, rfl, hrl, B, O, hR, hnd, hge⟩ := hrel
    by_cases hlt5 : k < 5
    · have hi0 : (0 : Int) ≤ (k : Int) := by omega
      have hi1 : (k : Int) < 5 := by omega
      have hi2 : (k : Int) + 1 ≤ 9223372036854775807 := by omega
      obtain ⟨l, hl⟩ : ∃ l, ls[k]? = some l := ⟨_, List.getElem?_eq_getElem (by omega)⟩
      obtain ⟨hw0, hls, hw1⟩ := hws.out l (List.mem_of_getElem? hl)
      have cx := (B.cell (World.block_lt_of_cell? _ _ (hcell.out k l hl))).trans (hcell.out k l hl)
      have CR := read_is l wr hls
      obtain ⟨AS, cS, hsv⟩ := own_shape O
      subst hsv
      have hB0 := Lib.hid B.size
      have HB := Lib.hid B
      have HO := Lib.hid O
      have HR := Lib.hid hR
      have HND := Lib.hid hnd
      have HGE := Lib.hid hge
      have HL := Lib.hid hl
      have HRL := Lib.hid hrl
      clear B O hR hnd hge hl hrl
      go_upto_region 12 with (go_at_call 88; refine CR.mono ?_; rintro e w4 ⟨r, rfl, hRd, hr1, hb4⟩)
      obtain ⟨A, c, hb, hh⟩ := hRd
      have c0 : w4.cell? ⟨r, 0, none⟩ = some (.slice A (words l).length c) := hb.cellAt (i := 0) rfl
      have hRd' : Rd w4 r (words l) := ⟨A, c, hb, hh⟩
      have hw2 : (0 : Int) < ((words l).length : Int) := by omega
      have B4 := HB.out.trans (hb4.mono HB.out.size)
      have O4 := own_below HO.out hb4
      have hR4 : Rds w4 rs ls := fun i r hi => by obtain ⟨l, hl, h⟩ := HR.out i r hi; exact ⟨l, hl, h.down hb4⟩
      have HB4 := Lib.hid B4
      have HO4 := Lib.hid O4
      have HR4 := Lib.hid hR4
      have HRd := Lib.hid hRd'
      have hsz4 := Lib.hid hb4.size
      clear hb hh hRd' B4 O4 hR4 hb4 CR HB HO HR cx
      generalize (words l).length = q at *
      go_upto_region 13 with fail
      have O5 := own_below HO4.out ((Below.refl w4.heap.size w4).alloc (Nat.le_refl _) (.cells #[.pointer (some ⟨r, 0, none⟩)] 112))
      have hsz5 := Nat.le_trans HB4.out.size (show w4.heap.size ≤ (w4.alloc (.cells #[.pointer (some ⟨r, 0, none⟩)] 112)).heap.size by simp)
      go_wp2_with (at_builtin; refine wpList_append_has rfl (.tmp 36) (.tmp 38) 105 rfl i0 _ 8 Tryz.underlying105 hI0 hz0 hz1 hz2 rfl (by decide) rfl O5 (some ⟨w4.heap.size, 0, none⟩) 1 1 [.pointer (some ⟨r, 0, none⟩)] rfl (Has.box w4 112 1 1 [.pointer (some ⟨r, 0, none⟩)] rfl (by unfold maxLen; omega)) (pv_one [r]) (by unfold maxLen; omega) (by omega) hsz5 ?_; intro v6 w6 own6 g6 at6; obtain ⟨A6, c6, hv6⟩ := own_shape own6; subst hv6; have OWN6 := Lib.hid own6; have KK := Lib.hid (keeps_grown ((Keeps.refl (fun b => (Value.slice AS k cS).ownBlock = some b) w4).alloc (.cells #[.pointer (some ⟨r, 0, none⟩)] 112)) g6 (fun g hg => .inl hg)); clear own6 g6 at6 O5)
      go_roundw
      case rel =>
        have hrd := HRd.out
        have hSr : ∀ x ws, Rd w4 x ws → ¬ (Value.slice AS k cS).ownBlock = some x := fun x ws h e => by
          obtain ⟨A, c, hb, _⟩ := h
          exact own_type_ne HO4.out hb (by decide) e
        have hSs : ∀ g cur, w4.heap[g]? = some (.cells cur 9 (0, 0)) → ¬ (Value.slice AS k cS).ownBlock = some g := fun g cur hg e => by
          rcases HO4.out.2 with ⟨h0, _⟩ | ⟨g', cap, cur', hv, _, hh, _⟩
          · rw [h0] at e; cases e
          · rw [hv] at e; cases e; rw [hg] at hh; injection hh with hh; injection hh with _ ht; exact absurd ht (by decide)
        have hR6 : Rds w6 (rs ++ [r]) ls := by
          intro i x hi
          rw [List.getElem?_append] at hi
          split at hi
          · obtain ⟨l', hl', h⟩ := HR4.out i x hi
            exact ⟨l', hl', h.kept KK.out (hSr x _ h) hSs⟩
          · rename_i hge
            have hi0 : i - rs.length = 0 := by
              rcases Nat.eq_zero_or_pos (i - rs.length) with h | h
              · exact h
              · rw [List.getElem?_eq_none (by simp; omega)] at hi; cases hi
            rw [hi0] at hi
            cases hi
            exact ⟨l, by rw [show i = k by have := HRL.out; omega]; exact HL.out, hrd.kept KK.out (hSr _ _ hrd) hSs⟩
        refine ⟨k + 1, rs ++ [r], by omega, by simp, by simp [HRL.out], below_keeps HB4.out KK.out HB4.out.size (fun b hb => (own_block_lt HO4.out b (ob_mem.2 hb)).1), by rw [pv_app]; exact OWN6.out, hR6, ?_, fun x hx => ?_⟩
        · refine List.nodup_append.2 ⟨HND.out, by simp, fun a ha b hb => ?_⟩
          simp at hb
          subst hb
          have := (HGE.out a ha).2
          omega
        · have hkk := KK.out.size
          have hz := hsz4.out
          rcases List.mem_append.1 hx with hx | hx
          · have := HGE.out x hx; omega
          · simp at hx
            subst hx
            have h1 := HB4.out.size
            have h2 := hrd.lt
            exact ⟨Nat.le_trans (show w3.heap.size ≤ wr.heap.size from hB0.out) hr1, by omega⟩
      case measure => simp [intOf]; omega
    · have hi1 : ¬ (k : Int) < 5 := by omega
      have hk5 : k = 5 := by omega
      subst hk5
      obtain ⟨AS, cS, hsv⟩ := own_shape O
      subst hsv
      have HB := Lib.hid B
      have HO := Lib.hid O
      have HR := Lib.hid hR
      have HND := Lib.hid hnd
      have HGE := Lib.hid hge
      have HRL := Lib.hid hrl
      clear B O hR hnd hge hrl
      go_wp2_with fail
      refine bodyPost_ret (v := .tuple #[.slice AS 5 cS, .int .i64 0]) (by simp [results, Tryz.results50, go_sem]) rfl ?_
      have h3 := HB1.out.size
      first | exact ⟨_, rs, rfl, HRL.out, Has.of_own HO.out, HR.out, HND.out, fun r hr => by have := (HGE.out r hr).1; omega, fun b hb => by have := (own_block_lt HO.out b (ob_mem.2 hb)).1; omega, HB1.out.trans (HB.out.mono h3)⟩ | exact ⟨_, rfl, rs, HRL.out, Has.of_own HO.out, HR.out, HND.out, fun r hr => by have := (HGE.out r hr).1; omega, fun b hb => by have := (own_block_lt HO.out b (ob_mem.2 hb)).1; omega, HB1.out.trans (HB.out.mono h3)⟩
end Aw
end Go.Proofs.YtbgiegecfapmlaaGreatDoor

namespace Go.Proofs.YtbgiegecfapmlaaGreatDoor
open Go.RowKit
set_option linter.unusedVariables false
set_option linter.unusedSimpArgs false
namespace Aw
/-- The way Robust, as a Policy. -/
def PR : Value := .iface 71 (.agg #[])
theorem ta_dover (W : World) : (Instr.typeAssert (.iface 71 (.agg #[])) 31 75 true).run Tryz.prog W = .ok (.tuple #[.agg #[.int .i64 0, .int .i64 0], .bool false]) W := by
  kernel_rfl
theorem ta_robust (W : World) : (Instr.typeAssert (.iface 71 (.agg #[])) 31 71 true).run Tryz.prog W = .ok (.tuple #[.agg #[], .bool true]) W := by
  kernel_rfl
theorem ta_skip (W : World) : (Instr.typeAssert (.iface 71 (.agg #[])) 31 198 true).run Tryz.prog W = .ok (.tuple #[.agg #[.slice none 0 0, .bool false], .bool false]) W := by
  kernel_rfl
theorem ta_elastic (W : World) : (Instr.typeAssert (.iface 71 (.agg #[])) 31 181 true).run Tryz.prog W = .ok (.tuple #[.agg #[.pointer none], .bool false]) W := by
  kernel_rfl
set_option maxRecDepth 100000 in
theorem jobs_r (w : World) : Calls Tryz.prog 35 #[PR] w fun e w' => e = .returned (.bool true) ∧ w' = w := by
  unfold PR
  have q1 := ta_dover
  have q2 := ta_robust
  go_enter Tryz.func35, Tryz.ntmps35
  go_wp2_with fail
  go_ret
  exact ⟨rfl, rfl⟩
set_option maxRecDepth 100000 in
theorem dover_r (w : World) : Calls Tryz.prog 58 #[PR] w fun e w' => e = .returned (.tuple #[.agg #[.int .i64 0, .int .i64 0], .bool false]) ∧ Below w.heap.size w w' := by
  unfold PR
  have q1 := ta_dover
  go_enter Tryz.func58, Tryz.ntmps58
  go_wp2_with fail
  have X := (Blk.new w 73 [.int .i64 0, .int .i64 0]).alloc (.cells #[.int .i64 0, .int .i64 0] 75)
  have x0 := X.cellAt (i := 0) rfl
  have x1 := X.cellAt (i := 1) rfl
  refine bodyPost_ret (v := .tuple #[.agg #[.int .i64 0, .int .i64 0], .bool false]) (by simp [results, Tryz.results58, go_sem, x0, x1]) rfl ⟨rfl, ?_⟩
  exact (((Keeps.refl (fun _ => False) w).alloc _).alloc _).below (fun _ _ h => h)
set_option maxRecDepth 100000 in
theorem skip_r (w : World) : Calls Tryz.prog 60 #[PR] w fun e w' => e = .returned (.tuple #[.slice none 0 0, .bool false, .bool false]) ∧ Below w.heap.size w w' := by
  unfold PR
  have q1 := ta_skip
  have X := Blk.new w 198 [.slice none 0 0, .bool false]
  have x0 := X.cellAt (i := 0) rfl
  have x1 := X.cellAt (i := 1) rfl
  go_enter Tryz.func60, Tryz.ntmps60
  go_wp2_with fail
  go_quiet (fail)
  go_wp2_with fail
  refine bodyPost_ret (v := .tuple #[.slice none 0 0, .bool false, .bool false]) (by simp [results, Tryz.results60, go_sem]) rfl ⟨rfl, ?_⟩
  exact (((Keeps.refl (fun _ => False) w).alloc _).drewN _).below (fun _ _ h => h)
set_option maxRecDepth 100000 in
theorem elastic_r (w : World) : Calls Tryz.prog 62 #[PR] w fun e w' => e = .returned (.tuple #[.pointer none, .bool false]) ∧ Below w.heap.size w w' := by
  unfold PR
  have q1 := ta_elastic
  go_enter Tryz.func62, Tryz.ntmps62
  go_wp2_with fail
  refine bodyPost_ret (v := .tuple #[.pointer none, .bool false]) (by simp [results, Tryz.results62, go_sem]) rfl ⟨rfl, ?_⟩
  exact ((Keeps.refl (fun _ => False) w).alloc _).below (fun _ _ h => h)
set_option maxRecDepth 100000 in
theorem good_r (w : World) : Calls Tryz.prog 23 #[PR] w fun e w' => e = .returned (.bool true) ∧ Below w.heap.size w w' := by
  have C1 := dover_r w
  have C2 := fun W => skip_r W
  have C3 := fun W => elastic_r W
  have q2 := ta_robust
  unfold PR at *
  go_enter Tryz.func23, Tryz.ntmps23
  go_wp2_with (go_at_call 58; refine C1.mono ?_; rintro e w1 ⟨rfl, b1⟩)
  refine (C2 _).mono ?_
  rintro e w2 ⟨rfl, b2⟩
  go_wp2_with fail
  refine (C3 _).mono ?_
  rintro e w3 ⟨rfl, b3⟩
  go_wp2_with fail
  go_ret
  have c1 := b1.alloc b1.size (.cells #[.int .i64 0, .int .i64 0] 73)
  have c2 := c1.trans (b2.mono c1.size)
  have c3 := c2.trans (b3.mono c2.size)
  exact ⟨rfl, c3.alloc c3.size _⟩
end Aw
end Go.Proofs.YtbgiegecfapmlaaGreatDoor

namespace Go.Proofs.YtbgiegecfapmlaaGreatDoor
open Go.RowKit
set_option linter.unusedVariables false
set_option linter.unusedSimpArgs false
namespace Aw
open Rob (own_below own_block_lt ob_mem blk_below below_drew J)
open Job (jc jv)
/-- A machine's cells: its way, its jobs, its monitors, its kernel. -/
def xc (l k : Value) : List Value := [PR, l, .slice none 0 0, k]
theorem new_x (w : World) : Calls Tryz.prog 9 #[PR] w fun e w' => ∃ x, e = .returned (.tuple #[.pointer (some ⟨x, 0, none⟩), .int .i64 0]) ∧ Blk w' x 69 (xc (.slice none 0 0) (.pointer none)) ∧ w.heap.size ≤ x ∧ Below w.heap.size w w' := by
  have C := good_r w
  unfold xc
  unfold PR at *
  go_enter Tryz.func9, Tryz.ntmps9
  go_wp2_with (go_at_call 23; refine C.mono ?_; rintro e w1 ⟨rfl, b1⟩)
  refine bodyPost_ret (v := .tuple #[.pointer (some ⟨w1.heap.size, 0, none⟩), .int .i64 0]) (by simp [results, Tryz.results9, go_sem]) rfl ?_
  have X := Blk.new w1 69 [.iface 71 (.agg #[]), .slice none 0 0, .slice none 0 0, .pointer none]
  first | exact ⟨w1.heap.size, rfl, X, b1.size, b1.alloc b1.size _⟩ | exact ⟨X, b1.size, b1.alloc b1.size _⟩
theorem early_x {w : World} {x : Nat} {l : Value} (h : Blk w x 69 (xc l (.pointer none))) : Calls Tryz.prog 24 #[.pointer (some ⟨x, 0, none⟩)] w fun e w' => e = .returned (.int .i64 0) ∧ w' = w := by
  have C := jobs_r w
  unfold xc at h
  have c0 := h.cellAt (i := 0) rfl
  have c3 := h.cellAt (i := 3) rfl
  unfold PR at *
  clear h
  go_enter Tryz.func24, Tryz.ntmps24
  go_wp2_with (go_at_call 35; refine C.mono ?_; rintro e w1 ⟨rfl, rfl⟩)
  go_ret
  exact ⟨rfl, rfl⟩
theorem started_x {w : World} {x k : Nat} {l : Value} (h : Blk w x 69 (xc l (.pointer (some ⟨k, 0, none⟩)))) : Calls Tryz.prog 26 #[.pointer (some ⟨x, 0, none⟩)] w fun e w' => e = .returned (.int .i64 0) ∧ w' = w := by
  have C := jobs_r w
  unfold xc at h
  have c0 := h.cellAt (i := 0) rfl
  have c3 := h.cellAt (i := 3) rfl
  unfold PR at *
  clear h
  go_enter Tryz.func26, Tryz.ntmps26
  go_wp2_with (go_at_call 35; refine C.mono ?_; rintro e w1 ⟨rfl, rfl⟩)
  go_ret
  exact ⟨rfl, rfl⟩
set_option maxRecDepth 100000 in
set_option maxHeartbeats 4000000 in
/-- A machine that has not started takes a job. -/
theorem submit_x {w : World} {base x : Nat} {lv : Value} {js : List J} {j : J} (T : Tabs w) (h : Blk w x 69 (xc lv (.pointer none))) (O : w.ownsRow base 36 8 lv js.length (js.flatMap jc)) (hbase : base ≤ w.heap.size) (hj : Job.good j = true) (hjn : j.nm.size < 4611686018427387904) (hn : js.length ≤ 100) :
    Calls Tryz.prog 11 #[.pointer (some ⟨x, 0, none⟩), jv j] w fun e w' => e = .returned (.tuple #[.int .i64 (js.length : Int), .int .i64 0]) ∧ ∃ lv', Blk w' x 69 (xc lv' (.pointer none)) ∧ w'.ownsRow base 36 8 lv' (js ++ [j]).length ((js ++ [j]).flatMap jc) ∧ Keeps (fun b => b = x ∨ lv.ownBlock = some b) w w' := by
  obtain ⟨i0, hI0, hz0, hz1, hz2⟩ := Rob.infoJ
  obtain ⟨AL, cL, hv⟩ := own_shape O
  subst hv
  have XB := Blk.new w 36 (jc j)
  have ba := (Below.refl w.heap.size w).alloc (Nat.le_refl _) (.cells (jc j).toArray 36)
  have h1 := blk_below h ba
  have O1 := own_below O ba
  have T1 := T.below ba
  have hob := own_block_lt O
  have HOB := Lib.hid hob
  have HNX := Lib.hid (fun b (e : (Value.slice AL js.length cL).ownBlock = some b) (e2 : b = w.heap.size) => (show False by have := (hob b (ob_mem.2 e)).2; omega))
  have BXX := Job.Box.of XB
  have hxw := h.lt
  have HXW := Lib.hid hxw
  have CE := fun W (hW : Below w.heap.size w W) => early_x (blk_below h hW)
  have HCE := Lib.hid CE
  have HBW := Lib.hid ba
  unfold jc at ba h1 O1 T1 BXX HBW
  have H1 := Lib.hid h1
  have HO1 := Lib.hid O1
  have HT1 := Lib.hid T1
  have HHB := Lib.hid hbase
  obtain ⟨x0, x1, x2, x3, x4, x5, x6, x7⟩ := BXX
  unfold jv
  clear CE hob XB ba h O T h1 O1 T1 hxw hbase
  go_enter Tryz.func11, Tryz.ntmps11
  go_upto_region 4 with (go_at_call 24; refine (HCE.out _ HBW.out).mono ?_; rintro e w1 ⟨rfl, rfl⟩)
  generalize w.alloc (.cells #[.string j.nm, .int .i64 j.rel, .int .i64 j.dl, .int .i64 j.bud, .int .i64 j.act, .int .i64 j.val, .int .i64 j.cln, .bool j.hard] 36) = w1 at *
  obtain ⟨X, hX⟩ : ∃ X, w.heap.size = X := ⟨_, rfl⟩
  rw [hX] at x0 x1 x2 x3 x4 x5 x6 x7
  have HX := Lib.hid (show Job.Box w1 X j from ⟨x0, x1, x2, x3, x4, x5, x6, x7⟩)
  have HNX2 : Hid (∀ b, (Value.slice AL js.length cL).ownBlock = some b → b ≠ X) := Lib.hid (fun b e e2 => HNX.out b e (by rw [hX]; exact e2))
  have CG := Job.good_is j w1 HT1.out hjn
  rw [hj] at CG
  unfold jv at CG
  rw [hX]
  have HXE := Lib.hid hX
  clear hX HNX HCE
  go_upto_region 6 with (go_at_call 25; refine CG.mono ?_; rintro e w2 ⟨rfl, b2⟩)
  have h2 := blk_below H1.out b2
  have O2 := own_below HO1.out b2
  have z2 := HX.out.below b2
  have c1 : w2.cell? ⟨x, 1, none⟩ = some (.slice AL js.length cL) := h2.cellAt (i := 1) rfl
  have hl1 : ¬ (200 : Int) ≤ (js.length : Int) := by omega
  have H2 := Lib.hid h2
  have HO2 := Lib.hid O2
  have HZ2 := Lib.hid z2
  have B2 := Lib.hid (HBW.out.trans (b2.mono HBW.out.size))
  clear CG x0 x1 x2 x3 x4 x5 x6 x7 h2 O2 z2 b2 H1 HO1 HT1 HX HBW
  go_upto_region 8 with fail
  refine wpU_begin (S := (fun W => W.cell? ⟨x, 1, none⟩ = some (.slice AL js.length cL) ∧ Job.Box W X j)) (U := 10) (by kernel_rfl) ?_
  have hd4 := below_drew w2
  have BX5 := blk_below H2.out hd4
  have O5 := own_below HO2.out hd4
  have z5 := HZ2.out.below hd4
  have B5 := B2.out.trans (hd4.mono B2.out.size)
  have y5 : w2.drew.cell? ⟨x, 1, none⟩ = some (.slice AL js.length cL) := c1
  have HNX := HNX2
  have hbs := HHB.out
  clear hd4 H2 HO2 HZ2 B2 c1 hl1
  generalize w2.drew = w5 at *
  refine wpU_take (i := 0) (oi := ⟨some 24, _, _, _, _, _⟩) (v := ?_) rfl (by kernel_rfl) (by kernel_rfl) (by kernel_rfl) (fun _ _ _ h => h) (by decide) (fun _ => ⟨y5, z5⟩) (Or.inl ⟨by kernel_rfl, ?_⟩) ?_
  rotate_left
  · intro w hSw; go_simp; try with_reducible rfl
  rotate_left
  try simp only [Act.put, List.setIfInBounds_toArray, List.set_cons_zero, List.set_cons_succ]
  refine wpU_take (i := 1) (oi := ⟨some 25, _, _, _, _, _⟩) (v := ?_) rfl (by kernel_rfl) (by kernel_rfl) (by kernel_rfl) (fun _ _ _ h => h) (by decide) (fun _ => ⟨y5, z5⟩) (Or.inl ⟨by kernel_rfl, ?_⟩) ?_
  rotate_left
  · intro w hSw; go_simp; try with_reducible rfl
  rotate_left
  try simp only [Act.put, List.setIfInBounds_toArray, List.set_cons_zero, List.set_cons_succ]
  refine wpU_take (i := 2) (oi := ⟨some 26, _, _, _, _, _⟩) (v := ?_) rfl (by kernel_rfl) (by kernel_rfl) (by kernel_rfl) (fun _ _ _ h => h) (by decide) (fun _ => ⟨y5, z5⟩) (Or.inl ⟨by kernel_rfl, ?_⟩) ?_
  rotate_left
  · intro w hSw; go_simp; try with_reducible rfl
  rotate_left
  try simp only [Act.put, List.setIfInBounds_toArray, List.set_cons_zero, List.set_cons_succ]
  refine wpU_take (i := 3) (oi := ⟨some 27, _, _, _, _, _⟩) (v := ?_) rfl (by kernel_rfl) (by kernel_rfl) (by kernel_rfl) (fun _ _ _ h => h) (by decide) (fun _ => ⟨y5, z5⟩) (Or.inl ⟨by kernel_rfl, ?_⟩) ?_
  rotate_left
  · intro w hSw; go_simp; try with_reducible rfl
  rotate_left
  try simp only [Act.put, List.setIfInBounds_toArray, List.set_cons_zero, List.set_cons_succ]
  refine wpU_load (i := 4) (oi := ⟨some 28, _, _, _, _, _⟩) (v := ?_) rfl (by kernel_rfl) (by kernel_rfl) (by kernel_rfl) (fun _ _ _ h => h) (by decide) (by kernel_rfl) (by kernel_rfl) (Or.inl ⟨by kernel_rfl, ?_⟩) ⟨y5, z5⟩ ?_
  rotate_left
  · intro w hSw; (try dsimp only at hSw); obtain ⟨q1, ⟨q20, q21, q22, q23, q24, q25, q26, q27⟩⟩ := hSw; go_simp; try with_reducible rfl
  rotate_left
  try simp only [Act.put, List.setIfInBounds_toArray, List.set_cons_zero, List.set_cons_succ]
  refine wpU_load (i := 5) (oi := ⟨some 29, _, _, _, _, _⟩) (v := ?_) rfl (by kernel_rfl) (by kernel_rfl) (by kernel_rfl) (fun _ _ _ h => h) (by decide) (by kernel_rfl) (by kernel_rfl) (Or.inl ⟨by kernel_rfl, ?_⟩) ⟨y5, z5⟩ ?_
  rotate_left
  · intro w hSw; (try dsimp only at hSw); obtain ⟨q1, ⟨q20, q21, q22, q23, q24, q25, q26, q27⟩⟩ := hSw; go_simp; try with_reducible rfl
  rotate_left
  try simp only [Act.put, List.setIfInBounds_toArray, List.set_cons_zero, List.set_cons_succ]
  refine wpU_ready (rs := [6]) (by kernel_rfl) (by simp) ?_
  refine AllReadyU.cons (o := ⟨some 30, _, _, _, _, _⟩) rfl (fun K hK => ?_) AllReadyU.nil
  go_simp
  have ba := (Below.refl w5.heap.size w5).alloc (Nat.le_refl _) (.cells #[.string j.nm, .int .i64 j.rel, .int .i64 j.dl, .int .i64 j.bud, .int .i64 j.act, .int .i64 j.val, .int .i64 j.cln, .bool j.hard] 36)
  have O6 := own_below O5 ba
  have N6 : Has (w5.alloc (.cells #[.string j.nm, .int .i64 j.rel, .int .i64 j.dl, .int .i64 j.bud, .int .i64 j.act, .int .i64 j.val, .int .i64 j.cln, .bool j.hard] 36)) 36 8 (.slice (some ⟨w5.heap.size, 0, none⟩) 1 1) 1 (jc j) := Has.box w5 36 8 1 (jc j) rfl (by unfold maxLen; omega)
  have y6 := (ba.cell (World.block_lt_of_cell? _ _ y5)).trans y5
  have z6 := z5.below ba
  have BX6 := blk_below BX5 ba
  have B6 := B5.trans (ba.mono B5.size)
  have hn5 : w5.heap.size < (w5.alloc (.cells #[.string j.nm, .int .i64 j.rel, .int .i64 j.dl, .int .i64 j.bud, .int .i64 j.act, .int .i64 j.val, .int .i64 j.cln, .bool j.hard] 36)).heap.size := by simp
  generalize w5.alloc (.cells #[.string j.nm, .int .i64 j.rel, .int .i64 j.dl, .int .i64 j.bud, .int .i64 j.act, .int .i64 j.val, .int .i64 j.cln, .bool j.hard] 36) = w6 at *
  refine hK.out _ _ (fun _ => ⟨y6, z6⟩) ?_
  clear hK K
  try simp only [Act.put, List.setIfInBounds_toArray, List.set_cons_zero, List.set_cons_succ]
  refine wpU_ready (rs := [7]) (by kernel_rfl) (by simp) ?_
  refine AllReadyU.cons (o := ⟨some 31, _, _, _, _, _⟩) rfl (fun K hK => ?_) AllReadyU.nil
  refine step_append_has rfl (.tmp 28) (.tmp 30) 22 rfl i0 _ 72 Tryz.underlying22 hI0 hz0 hz1 hz2 rfl (by decide) (by simp [Act.eval, Act.put]) O6 (some ⟨w5.heap.size, 0, none⟩) 1 1 (jc j) (by simp [Act.eval, Act.put]) N6 (Rob.jc_one j) (by unfold maxLen; omega) (by omega) (by have := B6.size; omega) ?_
  intro v7 w7 own7 g7 at7
  obtain ⟨A7, c7, hv7⟩ := own_shape own7
  subst hv7
  have K7 : Keeps (fun b => (Value.slice AL js.length cL).ownBlock = some b) w6 w7 := keeps_grown (Keeps.refl _ w6) g7 (fun g hg => .inl hg)
  have hnx : (Value.slice AL js.length cL).ownBlock ≠ some x := own_type_ne O6 BX6 (by decide)
  have hnX : (Value.slice AL js.length cL).ownBlock ≠ some X := fun e => HNX.out _ e rfl
  have BX7 := BX6.grown g7 hnx
  have f7 := BX7.frozen
  have y7 : w7.cell? ⟨x, 1, none⟩ = some (.slice AL js.length cL) := BX7.cellAt (i := 1) rfl
  have hX7 : w7.heap[X]? = w6.heap[X]? := K7.block X (World.block_lt_of_cell? _ _ z6.c0) hnX
  have z7 : Job.Box w7 X j := ⟨(World.cell?_of_block (a := ⟨X, 0, none⟩) hX7).trans z6.c0, (World.cell?_of_block (a := ⟨X, 1, none⟩) hX7).trans z6.c1, (World.cell?_of_block (a := ⟨X, 2, none⟩) hX7).trans z6.c2, (World.cell?_of_block (a := ⟨X, 3, none⟩) hX7).trans z6.c3, (World.cell?_of_block (a := ⟨X, 4, none⟩) hX7).trans z6.c4, (World.cell?_of_block (a := ⟨X, 5, none⟩) hX7).trans z6.c5, (World.cell?_of_block (a := ⟨X, 6, none⟩) hX7).trans z6.c6, (World.cell?_of_block (a := ⟨X, 7, none⟩) hX7).trans z6.c7⟩
  refine hK.out _ _ (fun _ => ⟨y7, z7⟩) ?_
  clear hK K
  try simp only [Act.put, List.setIfInBounds_toArray, List.set_cons_zero, List.set_cons_succ]
  refine wpU_take (i := 8) (oi := ⟨some 32, _, _, _, _, _⟩) (v := ?_) rfl (by kernel_rfl) (by kernel_rfl) (by kernel_rfl) (fun _ _ _ h => h) (by decide) (fun _ => ⟨y7, z7⟩) (Or.inl ⟨by kernel_rfl, ?_⟩) ?_
  rotate_left
  · intro w hSw; go_simp; try with_reducible rfl
  rotate_left
  try simp only [Act.put, List.setIfInBounds_toArray, List.set_cons_zero, List.set_cons_succ]
  refine wpU_take (i := 9) (oi := ⟨some 33, _, _, _, _, _⟩) (v := ?_) rfl (by kernel_rfl) (by kernel_rfl) (by kernel_rfl) (fun _ _ _ h => h) (by decide) (fun _ => ⟨y7, z7⟩) (Or.inl ⟨by kernel_rfl, ?_⟩) ?_
  rotate_left
  · intro w hSw; go_simp; try with_reducible rfl
  rotate_left
  try simp only [Act.put, List.setIfInBounds_toArray, List.set_cons_zero, List.set_cons_succ]
  refine wpU_ready (rs := [10]) (by kernel_rfl) (by simp) ?_
  refine AllReadyU.cons (o := ⟨none, _, _, _, _, _⟩) rfl (fun K hK => ?_) AllReadyU.nil
  go_simp
  refine hK.out _ _ (fun h => absurd h (by decide)) ?_
  clear hK K
  try simp only [Act.put, List.setIfInBounds_toArray, List.set_cons_zero, List.set_cons_succ]
  refine wpU_done (by kernel_rfl) ?_ _
  have hl7 : (js ++ [j]).length = js.length + 1 := by simp
  have hS' : (w7.setCell ⟨x, 1, none⟩ (.slice A7 (js.length + 1) c7)).cell? ⟨x, 1, none⟩ = some (.slice A7 (js.length + 1) c7) := (BX7.set_ 1 _).cellAt (i := 1) rfl
  have hn7 : (Value.slice A7 (js.length + 1) c7).ownBlock ≠ some x := own_type_ne own7 BX7 (by decide)
  have hO8 := own_kept own7 ((keep1 x w7).setCell ⟨x, 1, none⟩ (.inl rfl) (.slice A7 (js.length + 1) c7)) (fun g _ _ hg e => hn7 (by rw [hg, e]))
  have hB8 := BX7.set_ 1 (.slice A7 (js.length + 1) c7)
  have K8 : Keeps (fun b => b = x ∨ (Value.slice AL js.length cL).ownBlock = some b) w (w7.setCell ⟨x, 1, none⟩ (.slice A7 (js.length + 1) c7)) := by
    have k0 : Keeps (fun b => b = x ∨ (Value.slice AL js.length cL).ownBlock = some b) w w6 := keeps_of B6 _
    exact (k0.trans K7 (fun _ _ h => .inr h)).setCell _ (.inl (.inl rfl)) _
  have HO8 := Lib.hid hO8
  have HB8 := Lib.hid hB8
  have HK8 := Lib.hid K8
  have hw : wrap64 ((js.length : Int) + 1 - 1) = (js.length : Int) := by unfold wrap64; omega
  have hw2 : IntKind.i64.wrap ((js.length : Int) + 1 - 1) = (js.length : Int) := by rw [IntKind.wrap_i64]; omega
  clear hO8 hB8 K8 BX7 own7 g7 at7 K7 hn7 f7 y7 hX7 z7 hnx hnX O6 N6 y6 z6 BX6 B6 hn5 O5 BX5 z5 B5 y5
  generalize w7.setCell ⟨x, 1, none⟩ (.slice A7 (js.length + 1) c7) = w8 at *
  go_wp2_with fail
  refine bodyPost_ret (v := .tuple #[.int .i64 (js.length : Int), .int .i64 0]) (by simp [results, Tryz.results11, go_sem]) rfl ?_
  have hO9 : w8.ownsRow base 36 8 (.slice A7 (js.length + 1) c7) (js ++ [j]).length ((js ++ [j]).flatMap jc) := by
    have e : (js ++ [j]).flatMap jc = js.flatMap jc ++ jc j := by simp
    rw [hl7, e]; exact HO8.out
  first | exact ⟨rfl, _, HB8.out, hO9, HK8.out⟩ | exact ⟨rfl, ⟨_, HB8.out, hO9⟩, HK8.out⟩
end Aw
end Go.Proofs.YtbgiegecfapmlaaGreatDoor
