/- name.Words: what stands between blanks; conditions: at most a hundred thousand bytes. -/
import Derived.Test.YtbgiegecfapmlaaGreatDoorName
import Derived.Test.YtbgiegecfapmlaaGreatDoorRunMem
import Derived.Deep.DeepCutAuto
namespace Go.Proofs.YtbgiegecfapmlaaGreatDoor
open Go.RowKit
set_option linter.unusedVariables false
set_option linter.unusedSimpArgs false
namespace Aw
open Rob (own_below own_block_lt ob_mem blk_below below_drew)
def isBl (r : Nat) : Bool := decide (r = 32) || decide (r = 9)
/-- The words from place p on; f: where the word that is open begins. -/
def wd (s : ByteArray) : Nat → Nat → Option Nat → List ByteArray
  | 0, _, some a => [s.extract a s.size]
  | 0, _, none => []
  | g + 1, p, f => if p < s.size then
      (if isBl (Utf8.decode s p).1 = true then (match f with | some a => s.extract a p :: wd s g (p + (Utf8.decode s p).2) none | none => wd s g (p + (Utf8.decode s p).2) none)
       else (match f with | some a => wd s g (p + (Utf8.decode s p).2) (some a) | none => wd s g (p + (Utf8.decode s p).2) (some p)))
    else (match f with | some a => [s.extract a s.size] | none => [])
def words (s : ByteArray) : List ByteArray := wd s s.size 0 none
theorem wd_end (s : ByteArray) (g p : Nat) (f : Option Nat) (h : ¬ p < s.size) : wd s g p f = (match f with | some a => [s.extract a s.size] | none => []) := by
  cases g with
  | zero => cases f <;> rfl
  | succ g => simp only [wd]; rw [if_neg h]
section
variable {s : ByteArray} {g p a : Nat}
theorem wd_bn (h : p < s.size) (hb : isBl (Utf8.decode s p).1 = true) : wd s (g + 1) p none = wd s g (p + (Utf8.decode s p).2) none := by simp only [wd]; rw [if_pos h, if_pos hb]
theorem wd_bs (h : p < s.size) (hb : isBl (Utf8.decode s p).1 = true) : wd s (g + 1) p (some a) = s.extract a p :: wd s g (p + (Utf8.decode s p).2) none := by simp only [wd]; rw [if_pos h, if_pos hb]
theorem wd_nn (h : p < s.size) (hb : isBl (Utf8.decode s p).1 = false) : wd s (g + 1) p none = wd s g (p + (Utf8.decode s p).2) (some p) := by simp only [wd]; rw [if_pos h, if_neg (by rw [hb]; simp)]
theorem wd_ns (h : p < s.size) (hb : isBl (Utf8.decode s p).1 = false) : wd s (g + 1) p (some a) = wd s g (p + (Utf8.decode s p).2) (some a) := by simp only [wd]; rw [if_pos h, if_neg (by rw [hb]; simp)]
end
def fromV : Option Nat → Value
  | some a => .int .i64 (a : Int)
  | none => .int .i64 (-1)
def sv (l : List ByteArray) : List Value := l.map Value.string
theorem sv_one (l : List ByteArray) : ∀ u ∈ sv l, u.oneCell' = true := by
  intro u hu
  obtain ⟨x, _, rfl⟩ := List.mem_map.1 hu
  rfl
theorem sv_app (l l' : List ByteArray) : sv (l ++ l') = sv l ++ sv l' := by unfold sv; simp
theorem sv_len (l : List ByteArray) : (sv l).length = l.length := by unfold sv; simp
theorem infoS' : (Tryz.prog.info? 9).map (fun i => (i.zero, i.size, i.bytes)) = some (some (.string ByteArray.empty), 1, 16) := by kernel_rfl
theorem infoS : ∃ i, Tryz.prog.info? 9 = some i ∧ i.zero = some (.string ByteArray.empty) ∧ i.size = 1 ∧ i.bytes = 16 := by
  have h := infoS'
  cases hi : Tryz.prog.info? 9 with
  | none => rw [hi] at h; cases h
  | some i =>
    rw [hi] at h
    simp at h
    exact ⟨i, rfl, h.1, h.2.1, h.2.2⟩
set_option maxRecDepth 100000 in
set_option maxHeartbeats 4000000 in
theorem words_is (s : ByteArray) (w : World) (hs : s.size ≤ 100000) :
    Calls Tryz.prog 125 #[.string s] w fun e w' => ∃ v, e = .returned v ∧ w'.ownsRow w.heap.size 9 1 v (words s).length (sv (words s)) ∧ Below w.heap.size w w' := by
  obtain ⟨i0, hI0, hz0, hz1, hz2⟩ := infoS
  obtain ⟨W, hW⟩ : ∃ W, words s = W := ⟨_, rfl⟩
  rw [hW]
  have HW := Lib.hid hW
  have HS := Lib.hid hs
  clear hW
  go_enter Tryz.func125, Tryz.ntmps125
  go_wp2_with fail
  go_loopg [3, 4] s.size (fun g v fv wr => ∃ (p : Nat) (f : Option Nat) (ws : List ByteArray), fv = fromV f ∧ wr.heap[w.heap.size]? = some (.stringIter s p) ∧ Below w.heap.size w wr ∧ wr.ownsRow (w.heap.size + 1) 9 1 v ws.length (sv ws) ∧ Hid (ws ++ wd s g p f = W) ∧ s.size ≤ p + g ∧ (ws.length ≤ p ∧ ws.length ≤ s.size) ∧ (∀ a, f = some a → a ≤ p ∧ a < s.size))
  case atStart => exact ⟨0, none, [], rfl, World.iter_heap w s 0, (Below.refl _ w).alloc (Nat.le_refl _) _, ⟨rfl, .inl ⟨rfl, rfl⟩⟩, Lib.hid HW.out, by omega, by simp, fun a h => by cases h⟩
  case round =>
    obtain ⟨p, f, ws, rfl, hit, B, O, HR, hk, ⟨hwl, hws⟩, hf⟩ := hrel
    have hsz : w.heap.size < wr.heap.size := (Array.getElem?_eq_some_iff.1 hit).1
    by_cases hp : p < s.size
    · obtain ⟨g, rfl⟩ : ∃ g, gk = g + 1 := ⟨gk - 1, by omega⟩
      have hnx : ∀ ty, (Instr.next (.pointer (some ⟨w.heap.size, 0, none⟩)) true ty).run Tryz.prog wr = _ := fun ty => Lib.run_next_any_at wr w.heap.size s p ty hit hp
      have hwd := Lib.width_pos s p
      obtain ⟨r, hrr⟩ : ∃ r, (Utf8.decode s p).1 = r := ⟨_, rfl⟩
      obtain ⟨K, hK⟩ : ∃ K, (Utf8.decode s p).2 = K := ⟨_, rfl⟩
      rw [hrr, hK] at hnx
      have HRR := Lib.hid hrr
      have HKK := Lib.hid hK
      have HP := Lib.hid hp
      rw [hK] at hwd
      have hit2 := Lib.iterAt_heap wr w.heap.size s p (p + K) hit
      have B2 := Lib.below_iterAt B (k := w.heap.size) (Nat.le_refl _) s (p + K)
      have kI : Keeps (fun b => b = w.heap.size) wr (wr.iterAt w.heap.size s (p + K)) := by
        refine ⟨rfl, rfl, rfl, by simp [World.iterAt], fun i hi hne => ?_⟩
        simp [World.iterAt, Array.getElem?_setIfInBounds, Ne.symm hne]
      have O2 := own_kept O kI (fun g _ _ hg e => by have := (own_block_lt O g (ob_mem.2 hg)).1; omega)
      have hps := Lib.hid (show (p + K + g ≥ s.size ∧ ws.length + 1 ≤ p + K) ∧ ws.length + 1 ≤ s.size by omega)
      obtain ⟨bl, hbl⟩ : ∃ b, isBl r = b := ⟨_, rfl⟩
      have HBL := Lib.hid hbl
      have HF := Lib.hid hf
      have HIT := Lib.hid hit2
      have HB2 := Lib.hid B2
      have HO2 := Lib.hid O2
      have hwl2 : ws.length ≤ 100000 := by omega
      have hp1 : (p : Int) ≤ (s.size : Int) := by omega
      have hp0 : (0 : Int) ≤ (p : Int) := by omega
      clear hbl hf hit2 B2 O2 hrr hK hwd kI hit B O hk hwl hsz
      go_upto_region 6 with fail
      clear hnx
      generalize wr.iterAt w.heap.size s (p + K) = w2 at *
      go_cut [7] (fun v wx => v = .bool bl ∧ wx = w2)
      case first =>
        by_cases h1 : r = 32
        · subst h1
          have e : bl = true := by rw [← HBL.out]; rfl
          subst e
          go_wp2_with fail
          go_meet
          case rel => exact ⟨rfl, rfl⟩
        · have q1 : ((r : Int) == 32) = false := by simp <;> omega
          have q1' : ¬ (r : Int) = 32 := by omega
          by_cases h2 : r = 9
          · subst h2
            have e : bl = true := by rw [← HBL.out]; rfl
            subst e
            go_wp2_with fail
            go_meet
            case rel => exact ⟨rfl, rfl⟩
          · have q2 : ((r : Int) == 9) = false := by simp <;> omega
            have q2' : ¬ (r : Int) = 9 := by omega
            have e : bl = false := by rw [← HBL.out]; unfold isBl; simp [h1, h2]
            subst e
            clear h1 h2
            go_wp2_with fail
            go_meet
            case rel => exact ⟨rfl, rfl⟩
      case rest =>
        obtain ⟨rfl, rfl⟩ := hcut
        cases bl with
        | true =>
          cases f with
          | none =>
            have HR2 : Hid (ws ++ wd s g (p + K) none = W) := Lib.hid (by rw [← HR.out, wd_bn HP.out (by rw [HRR.out, HBL.out]), HKK.out])
            unfold fromV
            clear HR
            go_wp2_with fail
            go_roundg g
            case measure => omega
            case rel => exact ⟨p + K, none, ws, rfl, HIT.out, HB2.out, HO2.out, HR2, by have := hps.out; omega, by have := hps.out; exact ⟨by omega, by omega⟩, fun a h => by cases h⟩
          | some a =>
            have HR2 : Hid ((ws ++ [s.extract a p]) ++ wd s g (p + K) none = W) := Lib.hid (by rw [← HR.out, wd_bs HP.out (by rw [HRR.out, HBL.out]), HKK.out]; simp)
            have ha := HF.out a rfl
            have ha0 : (0 : Int) ≤ (a : Int) := by omega
            have ha1 : (a : Int) ≤ (p : Int) := by omega
            obtain ⟨AS, cS, hsv⟩ := own_shape HO2.out
            subst hsv
            unfold fromV
            clear HR
            go_upto_region 8 with fail
            have O5 := own_below HO2.out ((Below.refl wc.heap.size wc).alloc (Nat.le_refl _) (.cells #[.string (s.extract a p)] 9))
            have hsz5 : w.heap.size + 1 ≤ (wc.alloc (.cells #[.string (s.extract a p)] 9)).heap.size := by have := (Array.getElem?_eq_some_iff.1 HIT.out).1; simp; omega
            go_wp2_with (at_builtin; refine wpList_append_has rfl (.tmp 26) (.tmp 31) 41 rfl i0 _ 16 Tryz.underlying41 hI0 hz0 hz1 hz2 rfl (by decide) rfl O5 (some ⟨wc.heap.size, 0, none⟩) 1 1 [.string (s.extract a p)] rfl (Has.box wc 9 1 1 [.string (s.extract a p)] rfl (by unfold maxLen; omega)) (sv_one [(s.extract a p)]) (by unfold maxLen; omega) (by omega) hsz5 ?_; intro v6 w6 own6 g6 at6; obtain ⟨A6, c6, hv6⟩ := own_shape own6; subst hv6; have OWN6 := Lib.hid own6; have KK := Lib.hid (keeps_grown ((Keeps.refl (fun b => (Value.slice AS ws.length cS).ownBlock = some b) wc).alloc (.cells #[.string (s.extract a p)] 9)) g6 (fun g hg => .inl hg)); clear own6 g6 at6 O5)
            go_roundg g
            case measure => omega
            case rel =>
              have hob := fun b (hb : (Value.slice AS ws.length cS).ownBlock = some b) => (own_block_lt HO2.out b (ob_mem.2 hb)).1
              exact ⟨p + K, none, ws ++ [s.extract a p], rfl, (KK.out.block w.heap.size (Array.getElem?_eq_some_iff.1 HIT.out).1 (fun e => by have := hob _ e; omega)).trans HIT.out, below_keeps HB2.out KK.out HB2.out.size (fun b hb => by have := hob b hb; omega), by rw [List.length_append, sv_app]; exact OWN6.out, HR2, by have := hps.out; omega, by have := hps.out; rw [List.length_append]; exact ⟨by show ws.length + 1 ≤ _; omega, by show ws.length + 1 ≤ _; omega⟩, fun a h => by cases h⟩
        | false =>
          cases f with
          | none =>
            have HR2 : Hid (ws ++ wd s g (p + K) (some p) = W) := Lib.hid (by rw [← HR.out, wd_nn HP.out (by rw [HRR.out, HBL.out]), HKK.out])
            unfold fromV
            clear HR
            go_wp2_with fail
            go_roundg g
            case measure => omega
            case rel => exact ⟨p + K, some p, ws, rfl, HIT.out, HB2.out, HO2.out, HR2, by have := hps.out; omega, by have := hps.out; exact ⟨by omega, by omega⟩, fun a h => by cases h; omega⟩
          | some a =>
            have HR2 : Hid (ws ++ wd s g (p + K) (some a) = W) := Lib.hid (by rw [← HR.out, wd_ns HP.out (by rw [HRR.out, HBL.out]), HKK.out])
            have ha0 : (0 : Int) ≤ (a : Int) := by omega
            have ha1 : ¬ (a : Int) < 0 := by omega
            unfold fromV
            clear HR
            go_wp2_with fail
            go_roundg g
            case measure => omega
            case rel => exact ⟨p + K, some a, ws, rfl, HIT.out, HB2.out, HO2.out, HR2, by have := hps.out; omega, by have := hps.out; exact ⟨by omega, by omega⟩, fun b h => by cases h; have := HF.out a rfl; omega⟩
    · have hnx : ∀ ty, (Instr.next (.pointer (some ⟨w.heap.size, 0, none⟩)) true ty).run Tryz.prog wr = _ := fun ty => Lib.run_next_end_at wr w.heap.size s p ty hit hp
      have hr := HR.out
      rw [wd_end s gk p f hp] at hr
      have hs2 := HS.out
      cases f with
      | none =>
        have hr2 : Hid (ws = W) := Lib.hid (by simpa using hr)
        unfold fromV
        have HO := Lib.hid O
        have HB := Lib.hid B
        clear hr HR hit O B hf
        go_wp2_with fail
        go_ret
        exact ⟨_, rfl, by rw [← hr2.out]; exact ⟨HO.out.1, HO.out.2.imp id fun ⟨g, cap, cur, hv, hg, hrr⟩ => ⟨g, cap, cur, hv, by omega, hrr⟩⟩, HB.out⟩
      | some a =>
        have hr2 : Hid (ws ++ [s.extract a s.size] = W) := Lib.hid hr
        have ha := hf a rfl
        have ha0 : (0 : Int) ≤ (a : Int) := by omega
        have ha1 : (a : Int) ≤ (s.size : Int) := by omega
        obtain ⟨AS, cS, hsv⟩ := own_shape O
        subst hsv
        unfold fromV
        have HO := Lib.hid O
        have HB := Lib.hid B
        have hsz5 : w.heap.size + 1 ≤ (wr.alloc (.cells #[.string (s.extract a s.size)] 9)).heap.size := by simp; omega
        clear hr HR hit O B hf
        have O5 := own_below HO.out ((Below.refl wr.heap.size wr).alloc (Nat.le_refl _) (.cells #[.string (s.extract a s.size)] 9))
        go_wp2_with (at_builtin; refine wpList_append_has rfl (.tmp 43) (.tmp 47) 41 rfl i0 _ 16 Tryz.underlying41 hI0 hz0 hz1 hz2 rfl (by decide) rfl O5 (some ⟨wr.heap.size, 0, none⟩) 1 1 [.string (s.extract a s.size)] rfl (Has.box wr 9 1 1 [.string (s.extract a s.size)] rfl (by unfold maxLen; omega)) (sv_one [(s.extract a s.size)]) (by unfold maxLen; omega) (by omega) hsz5 ?_; intro v6 w6 own6 g6 at6; obtain ⟨A6, c6, hv6⟩ := own_shape own6; subst hv6; have OWN6 := Lib.hid own6; have KK := Lib.hid (keeps_grown ((Keeps.refl (fun b => (Value.slice AS ws.length cS).ownBlock = some b) wr).alloc (.cells #[.string (s.extract a s.size)] 9)) g6 (fun g hg => .inl hg)); clear own6 g6 at6 O5)
        go_ret
        have hob := fun b (hb : (Value.slice AS ws.length cS).ownBlock = some b) => (own_block_lt HO.out b (ob_mem.2 hb)).1
        refine ⟨_, rfl, ?_, below_keeps HB.out KK.out HB.out.size (fun b hb => by have := hob b hb; omega)⟩
        rw [← hr2.out, List.length_append, sv_app]
        exact ⟨OWN6.out.1, OWN6.out.2.imp id fun ⟨g, cap, cur, hv, hg, hrr⟩ => ⟨g, cap, cur, hv, by omega, hrr⟩⟩
end Aw
end Go.Proofs.YtbgiegecfapmlaaGreatDoor
