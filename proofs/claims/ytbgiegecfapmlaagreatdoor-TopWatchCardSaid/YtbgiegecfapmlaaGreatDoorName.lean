/- name.Good and its digit; conditions: the library's tables as its text lays them, at most a hundred thousand bytes. -/
import Derived.Test.YtbgiegecfapmlaaGreatDoorValid
import Derived.Test.YtbgiegecfapmlaaGreatDoorTop0
import Derived.Lib.OthersKept
import Derived.Lib.TrimU
import Derived.Deep.LoopGhost
namespace Go.Proofs.YtbgiegecfapmlaaGreatDoor
open Go.RowKit
set_option linter.unusedVariables false
set_option linter.unusedSimpArgs false
namespace Nm
def dig (r : Nat) : Bool := decide (48 ≤ r ∧ r ≤ 57)
/-- A rune that may stand behind n others. -/
def okR (n r : Nat) : Bool := Lib.isLetterU (r : Int) || (decide (n ≠ 0) && (dig r || decide (r = 95)))
/-- How many runes; none: one of them may not stand there. -/
def runes (s : ByteArray) : Nat → Nat → Nat → Option Nat
  | 0, _, n => some n
  | g + 1, p, n => if p < s.size then (if okR n (Utf8.decode s p).1 then runes s g (p + (Utf8.decode s p).2) (n + 1) else none) else some n
theorem runes_end (s : ByteArray) (g p n : Nat) (h : ¬ p < s.size) : runes s g p n = some n := by
  cases g with
  | zero => rfl
  | succ g => simp only [runes]; rw [if_neg h]
theorem runes_bad (s : ByteArray) (g p n : Nat) (h : p < s.size) (ho : okR n (Utf8.decode s p).1 = false) : runes s (g + 1) p n = none := by
  simp only [runes]; rw [if_pos h, ho]; rfl
theorem runes_go (s : ByteArray) (g p n : Nat) (h : p < s.size) (ho : okR n (Utf8.decode s p).1 = true) : runes s (g + 1) p n = runes s g (p + (Utf8.decode s p).2) (n + 1) := by
  simp only [runes]; rw [if_pos h, if_pos ho]
def good (s : ByteArray) : Bool := match runes s s.size 0 0 with
  | none => false
  | some n => decide (1 ≤ n ∧ n ≤ 20) && Utf.valid s
theorem digit_is (r : Nat) (hr : r ≤ 1114111) (w : World) :
    Calls Tryz.prog 108 #[.int .i32 (r : Int)] w fun e w' => e = .returned (.bool (dig r)) ∧ w' = w := by
  by_cases h1 : 48 ≤ r
  · have h2 : (48 : Int) ≤ (r : Int) := by omega
    by_cases h3 : r ≤ 57
    · have h4 : (r : Int) ≤ 57 := by omega
      have HD : Hid (dig r = true) := Lib.hid (by unfold dig; simp; omega)
      clear h1 h3
      go_enter Tryz.func108, Tryz.ntmps108
      go_wp2_with fail
      go_ret
      exact ⟨by rw [HD.out]; first | rfl | (simp; omega), rfl⟩
    · have h4 : ¬ (r : Int) ≤ 57 := by omega
      have HD : Hid (dig r = false) := Lib.hid (by unfold dig; simp; omega)
      clear h1 h3
      go_enter Tryz.func108, Tryz.ntmps108
      go_wp2_with fail
      go_ret
      exact ⟨by rw [HD.out]; first | rfl | (simp; omega), rfl⟩
  · have h2 : ¬ (48 : Int) ≤ (r : Int) := by omega
    have HD : Hid (dig r = false) := Lib.hid (by unfold dig; simp; omega)
    clear h1
    go_enter Tryz.func108, Tryz.ntmps108
    go_wp2_with fail
    go_ret
    exact ⟨by rw [HD.out]; first | rfl | (simp; omega), rfl⟩
theorem width_le (s : ByteArray) (p : Nat) : (Utf8.decode s p).2 ≤ 4 := by
  rw [Lib.decode_at]
  unfold Lib.decodeN
  repeat' split
  all_goals simp
set_option maxRecDepth 100000 in
set_option maxHeartbeats 4000000 in
theorem good_is (s : ByteArray) (w : World) (T : Tabs w) (hs : s.size < 4611686018427387904) :
    Calls Tryz.prog 64 #[.string s] w fun e w' => e = .returned (.bool (good s)) ∧ Below w.heap.size w w' := by
  obtain ⟨G, hG⟩ : ∃ b, good s = b := ⟨_, rfl⟩
  rw [hG]
  unfold good at hG
  obtain ⟨R, hR⟩ : ∃ r, runes s s.size 0 0 = r := ⟨_, rfl⟩
  rw [hR] at hG
  have HG := Lib.hid hG
  have HT := Lib.hid T
  have HR := Lib.hid hR
  clear hG T hR
  go_enter Tryz.func64, Tryz.ntmps64
  go_wp2_with fail
  go_loopg [3] s.size (fun k v wr => ∃ (p n : Nat), v = .int .i64 (n : Int) ∧ wr.heap[w.heap.size]? = some (.stringIter s p) ∧ Below w.heap.size w wr ∧ runes s k p n = R ∧ s.size ≤ p + k ∧ n ≤ p ∧ n ≤ s.size ∧ p ≤ 4 * n)
  case atStart => exact ⟨0, 0, rfl, World.iter_heap w s 0, (Below.refl _ w).alloc (Nat.le_refl _) _, HR.out, by omega, by omega, by omega, by omega⟩
  case round =>
    obtain ⟨p, n, rfl, hit, B, hr, hk, hn, hns, hp4⟩ := hrel
    have hsz : w.heap.size < wr.heap.size := (Array.getElem?_eq_some_iff.1 hit).1
    by_cases hp : p < s.size
    · obtain ⟨g, rfl⟩ : ∃ g, gk = g + 1 := ⟨gk - 1, by omega⟩
      have hnx : ∀ ty, (Instr.next (.pointer (some ⟨w.heap.size, 0, none⟩)) true ty).run Tryz.prog wr = _ := fun ty => Lib.run_next_any_at wr w.heap.size s p ty hit hp
      have hwd := Lib.width_pos s p
      have hw4 := width_le s p
      have hr1 := Lib.rune_le s p
      have hbad := runes_bad s g p n hp
      have hgo := runes_go s g p n hp
      rw [hr] at hbad hgo
      obtain ⟨r, hrr⟩ : ∃ r, (Utf8.decode s p).1 = r := ⟨_, rfl⟩
      obtain ⟨K, hK⟩ : ∃ K, (Utf8.decode s p).2 = K := ⟨_, rfl⟩
      rw [hrr, hK] at hnx
      rw [hrr] at hr1 hbad hgo
      rw [hK] at hwd hw4 hgo
      have hit2 := Lib.iterAt_heap wr w.heap.size s p (p + K) hit
      have B2 := Lib.below_iterAt B (k := w.heap.size) (Nat.le_refl _) s (p + K)
      obtain ⟨W, hW⟩ : ∃ W, wr.iterAt w.heap.size s (p + K) = W := ⟨_, rfl⟩
      rw [hW] at hnx hit2 B2
      have hWs : w.heap.size < W.heap.size := (Array.getElem?_eq_some_iff.1 hit2).1
      have TW := HT.out.below B2
      have CL := Tryz.unicode_IsLetter_all (r : Int) W (by omega) (by omega) TW.props TW.letter
      have CD := fun W => digit_is r hr1 W
      have hno : okR n r = (Lib.isLetterU (r : Int) || (decide (n ≠ 0) && (dig r || decide (r = 95)))) := rfl
      have hnn := Lib.hid (show n + 1 ≤ p + K ∧ n + 1 ≤ s.size ∧ p + K ≤ 4 * (n + 1) ∧ s.size ≤ p + K + g by omega)
      have hn1 : (n : Int) + 1 < 9223372036854775807 := by omega
      have hn0 : (0 : Int) ≤ (n : Int) := by omega
      have HBAD := Lib.hid hbad
      have HGO := Lib.hid hgo
      have HNO := Lib.hid hno
      have HIT := Lib.hid hit2
      have HB2 := Lib.hid B2
      have HCD := Lib.hid CD
      have HWS := Lib.hid hWs
      clear hbad hgo hno hit2 B2 CD TW hr hk hn hns hp4 hrr hK hwd hw4 hW hit B hsz hWs
      cases hl : Lib.isLetterU (r : Int) with
      | true =>
        rw [hl] at CL
        have HOK : Hid (okR n r = true) := Lib.hid (by rw [HNO.out, hl]; rfl)
        clear hl HNO HCD HBAD
        go_wp2_with (go_at_call 107; refine CL.mono ?_; rintro e W2 ⟨rfl, hb⟩)
        go_roundg g
        case measure => omega
        case rel => exact ⟨p + K, n + 1, by simp, (hb.block w.heap.size HWS.out).trans HIT.out, HB2.out.trans (hb.mono (by have := HWS.out; omega)), (HGO.out HOK.out).symm, hnn.out.2.2.2, hnn.out.1, hnn.out.2.1, hnn.out.2.2.1⟩
      | false =>
        rw [hl] at CL
        by_cases hz : n = 0
        · subst hz
          have HOK : Hid (okR 0 r = false) := Lib.hid (by rw [HNO.out, hl]; rfl)
          have HF : Hid (G = false) := Lib.hid (by rw [← HG.out, HBAD.out HOK.out])
          clear hl HNO HCD HGO HBAD HOK
          go_wp2_with (go_at_call 107; refine CL.mono ?_; rintro e W2 ⟨rfl, hb⟩)
          go_ret
          exact ⟨by rw [HF.out]; rfl, HB2.out.trans (hb.mono (by have := HWS.out; omega))⟩
        · have hz1 : ((n : Int) == 0) = false := by simpa using hz
          have hz2 : ¬ (n : Int) = 0 := by omega
          cases hd : dig r with
          | true =>
            have HOK : Hid (okR n r = true) := Lib.hid (by rw [HNO.out, hl, hd]; simp [hz])
            clear hl HNO HBAD hz
            go_wp2_with (first | (go_at_call 107; refine CL.mono ?_; rintro e W2 ⟨rfl, hb⟩) | (go_at_call 108; refine (HCD.out _).mono ?_; rintro e W3 ⟨rfl, rfl⟩))
            go_roundg g
            case measure => omega
            case rel => exact ⟨p + K, n + 1, by simp, (hb.block w.heap.size HWS.out).trans HIT.out, HB2.out.trans (hb.mono (by have := HWS.out; omega)), (HGO.out HOK.out).symm, hnn.out.2.2.2, hnn.out.1, hnn.out.2.1, hnn.out.2.2.1⟩
          | false =>
            by_cases h95 : r = 95
            · subst h95
              have HOK : Hid (okR n 95 = true) := Lib.hid (by rw [HNO.out]; simp [hz])
              clear hl HNO HBAD hz
              go_wp2_with (first | (go_at_call 107; refine CL.mono ?_; rintro e W2 ⟨rfl, hb⟩) | (go_at_call 108; refine (HCD.out _).mono ?_; rintro e W3 ⟨rfl, rfl⟩))
              go_roundg g
              case measure => omega
              case rel => exact ⟨p + K, n + 1, by simp, (hb.block w.heap.size HWS.out).trans HIT.out, HB2.out.trans (hb.mono (by have := HWS.out; omega)), (HGO.out HOK.out).symm, hnn.out.2.2.2, hnn.out.1, hnn.out.2.1, hnn.out.2.2.1⟩
            · have h952 : ((r : Int) != 95) = true := by simp; omega
              have HOK : Hid (okR n r = false) := Lib.hid (by rw [HNO.out, hl, hd]; simp [h95])
              have HF : Hid (G = false) := Lib.hid (by rw [← HG.out, HBAD.out HOK.out])
              clear hl HNO HGO HBAD HOK hz
              clear h95 hr1 hp
              go_wp2_with fail
              refine CL.mono ?_
              rintro e W2 ⟨rfl, hb⟩
              clear CL hnx
              go_wp2_with fail
              refine (HCD.out _).mono ?_
              rintro e W3 ⟨rfl, rfl⟩
              rw [hd]
              clear hz1 hz2 hd hn0 hn1
              go_wp2_with fail
              go_ret
              exact ⟨by rw [HF.out]; rfl, HB2.out.trans (hb.mono (by have := HWS.out; omega))⟩
    · have hnx : ∀ ty, (Instr.next (.pointer (some ⟨w.heap.size, 0, none⟩)) true ty).run Tryz.prog wr = _ := fun ty => Lib.run_next_end_at wr w.heap.size s p ty hit hp
      rw [runes_end s gk p n hp] at hr
      have hGn : (decide (1 ≤ n ∧ n ≤ 20) && Utf.valid s) = G := by rw [← HG.out, ← hr]
      have HGN := Lib.hid hGn
      have hs4 : s.size ≤ 4 * n := by omega
      clear hGn hr hit hk hn hns
      by_cases h1 : 1 ≤ n
      · have h1i : (1 : Int) ≤ (n : Int) := by omega
        by_cases h2 : n ≤ 20
        · have h2i : (n : Int) ≤ 20 := by omega
          have CV := fun W (h : Tabs W) => Utf.valid_any s W h (by omega)
          have e : Utf.valid s = G := by rw [← HGN.out]; simp [h1, h2]
          rw [e] at CV
          clear h1 h2 hs4 hp4 hp
          go_wp2_with (go_at_call 109; refine (CV _ (HT.out.below B)).mono ?_; rintro e W2 ⟨rfl, hb⟩)
          go_ret
          exact ⟨rfl, B.trans (hb.mono (by omega))⟩
        · have h2i : ¬ (n : Int) ≤ 20 := by omega
          have e : G = false := by rw [← HGN.out]; simp; omega
          subst e
          clear h1 h2 hs4 hp4 hp
          go_wp2_with fail
          go_ret
          exact ⟨rfl, B⟩
      · have h1i : ¬ (1 : Int) ≤ (n : Int) := by omega
        have e : G = false := by rw [← HGN.out]; simp; omega
        subst e
        clear h1 hs4 hp4 hp
        go_wp2_with fail
        go_ret
        exact ⟨rfl, B⟩
end Nm
end Go.Proofs.YtbgiegecfapmlaaGreatDoor
