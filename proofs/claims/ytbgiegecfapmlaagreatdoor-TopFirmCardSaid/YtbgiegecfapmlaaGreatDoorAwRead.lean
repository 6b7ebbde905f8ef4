/- The reader of a line: word, may, whole, int, field; conditions: words as they come in the one text that is asked first. -/
import Derived.Test.YtbgiegecfapmlaaGreatDoorAwWords
namespace Go.Proofs.YtbgiegecfapmlaaGreatDoor
open Go.RowKit
set_option linter.unusedVariables false
set_option linter.unusedSimpArgs false
namespace Aw
open Rob (own_below own_block_lt ob_mem blk_below below_drew)
/-- A reader at block r, that has yet to give the words ws; none was bad. -/
def Rd (w : World) (r : Nat) (ws : List ByteArray) : Prop := ∃ A c, Blk w r 170 [.slice A ws.length c, .bool false] ∧ Has w 9 1 (.slice A ws.length c) ws.length (sv ws)
theorem Rd.lt {w : World} {r : Nat} {ws : List ByteArray} (h : Rd w r ws) : r < w.heap.size := by
  obtain ⟨A, c, hb, _⟩ := h
  exact hb.lt
theorem Rd.kept {w w' : World} {r : Nat} {ws : List ByteArray} {S : Nat → Prop} (h : Rd w r ws) (k : Keeps S w w') (hr : ¬ S r) (hs : ∀ g cur, w.heap[g]? = some (.cells cur 9 (0, 0)) → ¬ S g) : Rd w' r ws := by
  obtain ⟨A, c, hb, hh⟩ := h
  exact ⟨A, c, hb.kept k hr, hh.kept k (fun g cur hg _ => hs g cur hg)⟩
theorem Has.down' {w w' : World} {e : TypeId} {size n : Nat} {v : Value} {cs : List Value} (h : Has w e size v n cs) (hb : Below w.heap.size w w') : Has w' e size v n cs := by
  refine ⟨h.1, ?_⟩
  rcases h.2 with h0 | ⟨g, off, cap, cur, rfl, hnc, hcm, hg, hc⟩
  · exact .inl h0
  · have hlt : g < w.heap.size := (Array.getElem?_eq_some_iff.1 hg).1
    exact .inr ⟨g, off, cap, cur, rfl, hnc, hcm, (hb.block g hlt).trans hg, hc⟩
theorem Rd.down {w w' : World} {r : Nat} {ws : List ByteArray} (h : Rd w r ws) (hb : Below w.heap.size w w') : Rd w' r ws := by
  obtain ⟨A, c, hbk, hh⟩ := h
  exact ⟨A, c, blk_below hbk hb, Has.down' hh hb⟩
set_option maxRecDepth 100000 in
theorem whole_end {w : World} {r : Nat} (h : Rd w r []) : Calls Tryz.prog 52 #[.pointer (some ⟨r, 0, none⟩)] w fun e w' => e = .returned (.bool true) ∧ w' = w := by
  obtain ⟨A, c, hb, hh⟩ := h
  have c0 : w.cell? ⟨r, 0, none⟩ = some (.slice A 0 c) := hb.cellAt (i := 0) rfl
  have c1 := hb.cellAt (i := 1) rfl
  clear hb hh
  go_enter Tryz.func52, Tryz.ntmps52
  go_wp2_with fail
  go_ret
  exact ⟨rfl, rfl⟩
set_option maxRecDepth 100000 in
theorem may_end {w : World} {r : Nat} (h : Rd w r []) (s : ByteArray) : Calls Tryz.prog 96 #[.pointer (some ⟨r, 0, none⟩), .string s] w fun e w' => e = .returned (.bool false) ∧ w' = w := by
  obtain ⟨A, c, hb, hh⟩ := h
  have c0 : w.cell? ⟨r, 0, none⟩ = some (.slice A 0 c) := hb.cellAt (i := 0) rfl
  clear hb hh
  go_enter Tryz.func96, Tryz.ntmps96
  go_wp2_with fail
  go_ret
  exact ⟨rfl, rfl⟩
set_option maxRecDepth 100000 in
set_option maxHeartbeats 1000000 in
theorem word_is {w : World} {r : Nat} {x : ByteArray} {ws : List ByteArray} (h : Rd w r (x :: ws)) (hl : ws.length ≤ 1000) :
    Calls Tryz.prog 89 #[.pointer (some ⟨r, 0, none⟩)] w fun e w' => e = .returned (.string x) ∧ Rd w' r ws ∧ Keeps (· = r) w w' := by
  obtain ⟨A, c, hb, hh⟩ := h
  have c0 : w.cell? ⟨r, 0, none⟩ = some (.slice A (ws.length + 1) c) := hb.cellAt (i := 0) rfl
  have fr := hb.frozen
  obtain ⟨g, off, hA, hc⟩ := hh.at_ (by simp)
  have cx := hc 0 (.string x) rfl
  rw [Nat.add_zero] at cx
  have hcap : ws.length + 1 ≤ c := by
    rcases hh.2 with ⟨_, h0⟩ | ⟨g', off', cap, cur, hv, hnc, _⟩
    · simp at h0
    · injection hv with _ _ hc2
      simp at hnc
      omega
  have hh' : Has w 9 1 (.slice A (ws.length + 1) c) (ws.length + 1) (.string x :: sv ws) := hh
  obtain ⟨h1, h2⟩ := cut_first hh'
  have hn0 : ((ws.length : Int) + 1 == 0) = false := by simp <;> omega
  have hn1 : ¬ (ws.length : Int) + 1 = 0 := by omega
  have hn2 : (0 : Int) < (ws.length : Int) + 1 := by omega
  have hn3 : (1 : Int) ≤ (ws.length : Int) + 1 := by omega
  have hn4 : (ws.length : Int) + 1 ≤ (c : Int) := by omega
  have HB := Lib.hid hb
  have H1 := Lib.hid h1
  have H2 := Lib.hid h2
  subst hA
  clear hb hh hh' hc h1 h2
  go_enter Tryz.func89, Tryz.ntmps89
  go_wp2_with fail
  all_goals go_ret
  · exact ⟨rfl, ⟨_, _, HB.out.set_ 0 _, (H1.out ‹_›).kept ((keep1 r w).setCell ⟨r, 0, none⟩ (.inl rfl) _) (fun g cur hg _ => own_ne HB.out (by decide) g cur hg)⟩, (keep1 r w).setCell _ (.inl rfl) _⟩
  · exact ⟨rfl, ⟨_, _, HB.out.set_ 0 _, (H2.out ‹_›).kept ((keep1 r w).setCell ⟨r, 0, none⟩ (.inl rfl) _) (fun g cur hg _ => own_ne HB.out (by decide) g cur hg)⟩, (keep1 r w).setCell _ (.inl rfl) _⟩
/-- A number of one digit. -/
def dg (d : Nat) : ByteArray := ⟨#[(48 + d).toUInt8]⟩
set_option maxRecDepth 100000 in
set_option maxHeartbeats 4000000 in
theorem num_one (w : World) (d : Nat) (hd : d < 6) : Calls Tryz.prog 126 #[.string (dg d)] w fun e w' => e = .returned (.tuple #[.int .i64 (d : Int), .bool true]) ∧ Below w.heap.size w w' := by
  have CP := Tryz.strings_CutPrefix (dg d) ⟨#[45]⟩ w
  have e1 : (⟨(Lib.trimPrefix (dg d).data.toList (⟨#[45]⟩ : ByteArray).data.toList).toArray⟩ : ByteArray) = dg d := by
    have : d = 0 ∨ d = 1 ∨ d = 2 ∨ d = 3 ∨ d = 4 ∨ d = 5 := by omega
    rcases this with rfl | rfl | rfl | rfl | rfl | rfl <;> rfl
  have e2 : Lib.hasPrefix (dg d).data.toList (⟨#[45]⟩ : ByteArray).data.toList = false := by
    have : d = 0 ∨ d = 1 ∨ d = 2 ∨ d = 3 ∨ d = 4 ∨ d = 5 := by omega
    rcases this with rfl | rfl | rfl | rfl | rfl | rfl <;> rfl
  rw [e1, e2] at CP
  have hsz : (dg d).size = 1 := rfl
  have hdec : Utf8.decode (dg d) 0 = (48 + d, 1) := by
    have : d = 0 ∨ d = 1 ∨ d = 2 ∨ d = 3 ∨ d = 4 ∨ d = 5 := by omega
    rcases this with rfl | rfl | rfl | rfl | rfl | rfl <;> decide
  have CD := fun W => Nm.digit_is (48 + d) (by omega) W
  have hdig : Nm.dig (48 + d) = true := by unfold Nm.dig; simp; omega
  rw [hdig] at CD
  generalize dg d = s at *
  clear e1 e2 hdig
  go_enter Tryz.func126, Tryz.ntmps126
  go_wp2_with (go_at_call 153; refine CP.mono ?_; rintro e w2 ⟨rfl, rfl⟩)
  go_loopg [6] 1 (fun g v wr => ∃ (p n : Nat), v = .int .i64 (n : Int) ∧ wr.heap[w2.heap.size]? = some (.stringIter s p) ∧ Below w2.heap.size w2 wr ∧ (p = 0 ∧ n = 0 ∧ g = 1 ∨ p = 1 ∧ n = d))
  case atStart => exact ⟨0, 0, rfl, World.iter_heap w2 s 0, (Below.refl _ w2).alloc (Nat.le_refl _) _, .inl ⟨rfl, rfl, rfl⟩⟩
  case round =>
    obtain ⟨p, n, rfl, hit, B, hc⟩ := hrel
    rcases hc with ⟨rfl, rfl, rfl⟩ | ⟨rfl, rfl⟩
    · have hnx : ∀ ty, (Instr.next (.pointer (some ⟨w2.heap.size, 0, none⟩)) true ty).run Tryz.prog wr = _ := fun ty => Lib.run_next_any_at wr w2.heap.size s 0 ty hit (by omega)
      rw [hdec] at hnx
      have hit2 := Lib.hid (Lib.iterAt_heap wr w2.heap.size s 0 (0 + 1) hit)
      have B2 := Lib.hid (Lib.below_iterAt B (k := w2.heap.size) (Nat.le_refl _) s (0 + 1))
      clear hit B hdec CP
      go_wp2_with (go_at_call 108; refine (CD _).mono ?_; rintro e w3 ⟨rfl, rfl⟩)
      go_roundg 0
      case measure => omega
      case rel => exact ⟨1, d, by rw [show (48 + (d : Int) - 48) = d by omega], hit2.out, B2.out, .inr ⟨rfl, rfl⟩⟩
    · have hnx : ∀ ty, (Instr.next (.pointer (some ⟨w2.heap.size, 0, none⟩)) true ty).run Tryz.prog wr = _ := fun ty => Lib.run_next_end_at wr w2.heap.size s 1 ty hit (by omega)
      have HB := Lib.hid B
      clear hit B hdec CP
      go_wp2_with fail
      exact bodyPost_ret (v := .tuple #[.int .i64 (n : Int), .bool true]) (by simp [results, Tryz.results126, go_sem]) rfl ⟨rfl, HB.out⟩
theorem keeps_of {w w' : World} (b : Below w.heap.size w w') (S : Nat → Prop) : Keeps S w w' := ⟨b.os, b.tape, b.output, b.size, fun i hi _ => b.block i hi⟩
set_option maxRecDepth 100000 in
set_option maxHeartbeats 1000000 in
theorem number_is {w : World} {r d : Nat} {ws : List ByteArray} (h : Rd w r (dg d :: ws)) (hl : ws.length ≤ 1000) (hd : d < 6) :
    Calls Tryz.prog 90 #[.pointer (some ⟨r, 0, none⟩)] w fun e w' => e = .returned (.int .i64 (d : Int)) ∧ Rd w' r ws ∧ Keeps (· = r) w w' := by
  have CW := word_is h hl
  have CN := fun W => num_one W d hd
  have hr := Lib.hid h.lt
  clear h
  generalize dg d = s at *
  go_enter Tryz.func90, Tryz.ntmps90
  go_upto_region 2 with (first | (go_at_call 89; refine CW.mono ?_; rintro e w2 ⟨rfl, h2, k2⟩) | (go_at_call 126; refine (CN _).mono ?_; rintro e w3 ⟨rfl, b3⟩))
  have h3 := h2.down b3
  have K3 := k2.trans (keeps_of b3 (fun _ => False)) (fun _ _ h => h.elim)
  obtain ⟨A, c, hb, hh⟩ := h3
  have c1 := hb.cellAt (i := 1) rfl
  have fr := hb.frozen
  have HB := Lib.hid hb
  have HH := Lib.hid hh
  have HK := Lib.hid K3
  clear hb hh K3 h2 k2 b3
  go_wp2_with fail
  go_ret
  have kk := (keep1 r w3).setCell ⟨r, 1, none⟩ (.inl rfl) (.bool false)
  exact ⟨rfl, ⟨A, c, HB.out.set_ 1 _, HH.out.kept kk (fun g cur hg _ => own_ne HB.out (by decide) g cur hg)⟩, HK.out.setCell _ (.inl rfl) _⟩
theorem int_is {w : World} {r d : Nat} {ws : List ByteArray} (h : Rd w r (dg d :: ws)) (hl : ws.length ≤ 1000) (hd : d < 6) :
    Calls Tryz.prog 98 #[.pointer (some ⟨r, 0, none⟩)] w fun e w' => e = .returned (.int .i64 (d : Int)) ∧ Rd w' r ws ∧ Keeps (· = r) w w' := by
  have CN := number_is h hl hd
  clear h
  go_enter Tryz.func98, Tryz.ntmps98
  go_wp2_with (go_at_call 90; refine CN.mono ?_; rintro e w2 ⟨rfl, h2, k2⟩)
  go_ret
  exact ⟨rfl, h2, k2⟩
/-- A word with a key of one letter: 'd=4'. -/
def kv (k : UInt8) (d : Nat) : ByteArray := ⟨#[k, 61, (48 + d).toUInt8]⟩
set_option maxRecDepth 100000 in
set_option maxHeartbeats 1000000 in
theorem field_is {w : World} {r d : Nat} {k : UInt8} {ws : List ByteArray} (h : Rd w r (kv k d :: ws)) (hl : ws.length ≤ 1000) (hd : d < 6) :
    Calls Tryz.prog 232 #[.pointer (some ⟨r, 0, none⟩), .string ⟨#[k]⟩] w fun e w' => e = .returned (.int .i64 (d : Int)) ∧ Rd w' r ws ∧ Keeps (· = r) w w' := by
  have CW := word_is h hl
  have CN := fun W => num_one W d hd
  have CP := fun W => Tryz.strings_CutPrefix (kv k d) ⟨#[k, 61]⟩ W
  have e1 : (⟨(Lib.trimPrefix (kv k d).data.toList (⟨#[k, 61]⟩ : ByteArray).data.toList).toArray⟩ : ByteArray) = dg d := by
    simp [kv, dg, Lib.trimPrefix, Lib.hasPrefix]
  have e2 : Lib.hasPrefix (kv k d).data.toList (⟨#[k, 61]⟩ : ByteArray).data.toList = true := by
    simp [kv, Lib.hasPrefix]
  rw [e1, e2] at CP
  have hr := Lib.hid h.lt
  have hap : (⟨#[k]⟩ : ByteArray) ++ ⟨#[61]⟩ = ⟨#[k, 61]⟩ := rfl
  clear h e1 e2
  generalize dg d = s at *
  generalize kv k d = t at *
  go_enter Tryz.func232, Tryz.ntmps232
  go_upto_region 3 with (first | (go_at_call 89; refine CW.mono ?_; rintro e w2 ⟨rfl, h2, k2⟩) | (go_at_call 153; refine (CP _).mono ?_; rintro e w2b ⟨rfl, rfl⟩) | (go_at_call 126; refine (CN _).mono ?_; rintro e w3 ⟨rfl, b3⟩))
  have h3 := h2.down b3
  have K3 := k2.trans (keeps_of b3 (fun _ => False)) (fun _ _ h => h.elim)
  obtain ⟨A, c, hb, hh⟩ := h3
  have c1 := hb.cellAt (i := 1) rfl
  have fr := hb.frozen
  have HB := Lib.hid hb
  have HH := Lib.hid hh
  have HK := Lib.hid K3
  clear hb hh K3 h2 k2 b3
  go_wp2_with fail
  go_ret
  have kk := (keep1 r w3).setCell ⟨r, 1, none⟩ (.inl rfl) (.bool false)
  exact ⟨rfl, ⟨A, c, HB.out.set_ 1 _, HH.out.kept kk (fun g cur hg _ => own_ne HB.out (by decide) g cur hg)⟩, HK.out.setCell _ (.inl rfl) _⟩
/-- read: a reader of a line's words. -/
theorem read_is (s : ByteArray) (w : World) (hs : s.size ≤ 100000) :
    Calls Tryz.prog 88 #[.string s] w fun e w' => ∃ r, e = .returned (.pointer (some ⟨r, 0, none⟩)) ∧ Rd w' r (words s) ∧ w.heap.size ≤ r ∧ Below w.heap.size w w' := by
  have CW := words_is s w hs
  go_enter Tryz.func88, Tryz.ntmps88
  go_wp2_with (go_at_call 125; refine CW.mono ?_; rintro e w2 ⟨v, rfl, own, b2⟩; obtain ⟨A, c, hv⟩ := own_shape own; subst hv)
  go_ret
  have X := Blk.new w2 170 [.slice A (words s).length c, .bool false]
  exact ⟨w2.heap.size, rfl, ⟨A, c, X, (Has.of_own own).kept ((Keeps.refl (fun _ => False) w2).alloc _) (fun _ _ _ _ h => h)⟩, b2.size, b2.alloc b2.size _⟩
end Aw
end Go.Proofs.YtbgiegecfapmlaaGreatDoor
