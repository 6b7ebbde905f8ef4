/- The law FirmWindows returns true at every input and leaves its arguments alone. Conditions: none. -/
import Derived.Test.YtpfhogbkbodfjabAwake16
namespace Go.Proofs.Ytpfhogbkbodfjab
open Go.RowKit Go.ChangeShapes Go.WideShapes Go.ChangeAt Go.Deep
set_option linter.unusedVariables false
set_option linter.unusedSimpArgs false
namespace FirmWindows
open Mon Win
set_option maxRecDepth 100000 in
set_option maxHeartbeats 8000000 in
theorem walk_in (m k : Nat) (A1 : Option Addr) (n1 c1 : Nat) (x1 : List Bool) (w : World) (r1 : Row (fun x : Bool => [Value.bool x]) 1 w A1 n1 x1) (h1 : 1 ≤ k) (h2 : k ≤ 64) (hm : m ≤ k) (hn : n1 ≤ 100) :
    Calls Try.prog 12 #[.int .i64 (m : Int), .int .i64 (k : Int), .slice A1 n1 c1] w fun e w' => e = .returned (.bool true) ∧ Below w.heap.size w w' := by
  have g1 : (1 : Int) ≤ (k : Int) := by omega
  have g2 : (k : Int) ≤ 64 := by omega
  have g3 : (m : Int) ≤ (k : Int) := by omega
  have g4 : (0 : Int) ≤ (m : Int) := by omega
  have g5 : (n1 : Int) ≤ 100 := by omega
  have HXL := Lib.hid r1.1
  go_enter Try.func12, Try.ntmps12
  go_wp2_with fail
  refine (awake_ok w).mono ?_
  rintro e wa ⟨rfl, ba⟩
  go_wp2_with fail
  refine (new_m m k w wa ba h1 h2 hm).mono ?_
  rintro e wb ⟨p, F, rfl, M1, _, _⟩
  clear ba
  go_wp2_with fail
  go_loopw [9] (fun i wr => ∃ (j : Nat) (F : Nat → Prop), j ≤ n1 ∧ i = .int .i64 (j : Int) ∧ Mem1 w p F m k (x1.take j) (brk m k (x1.take j)) wr) (fun i _ => n1 - (intOf i).toNat)
  case atStart => exact ⟨0, F, Nat.zero_le _, rfl, M1⟩
  case round =>
    clear M1
    obtain ⟨j, F, hj, rfl, M⟩ := hrel
    by_cases hlt : j < n1
    · obtain ⟨bb, off, y, rfl, hy, hbl0, hc⟩ := r1.at1 M.B hlt
      have HTK : Hid (x1.take j ++ [y] = x1.take (j + 1)) := Lib.hid (take_next hy).symm
      have hxn : (x1.take j).length = j := by rw [List.length_take]; have := HXL.out; omega
      have hbl := brk_len m k (x1.take j)
      have hA0 := fun (W : World) (h : Is W p F m k (x1.take j) (brk m k (x1.take j))) => add_is y h h1 h2 hm (by omega) (by omega)
      rw [← brk_snoc m k (x1.take j) y] at hA0
      rw [HTK.out] at hA0
      have hj0 : (0 : Int) ≤ (j : Int) := by omega
      have hj1 : (j : Int) < (n1 : Int) := by omega
      have hj2 : (j : Int) ≤ 100 := by omega
      have hr := fun (u : Nat) (hu : u < n1) => r1.at1 M.B hu
      have HR := Lib.hid hr
      have HA0 := Lib.hid hA0
      obtain ⟨s, hs⟩ : ∃ s, s = j + 1 - k := ⟨_, rfl⟩
      have HS := Lib.hid hs
      have hsj : s ≤ j + 1 := by omega
      have hsk : (s : Int) ≤ (j : Int) + 1 := by omega
      clear hs hr hA0 hxn hbl hy hlt hj
      go_wp2_with fail
      obtain ⟨wo, rfl⟩ : ∃ wo : World, wo = wr := ⟨_, rfl⟩
      go_loop [10, 11] (fun t i => ∃ u : Nat, s ≤ u ∧ u ≤ j + 1 ∧ i = .int .i64 ((u : Int) - 1) ∧ t = .int .i64 ((cnt ((x1.take (j + 1)).drop u) : Nat) : Int)) (fun _ i => (intOf i + 1).toNat)
      case atStart => exact ⟨j + 1, hsj, Nat.le_refl _, by congr 1; omega, by rw [List.drop_eq_nil_of_le (by rw [List.length_take]; omega)]; rfl⟩
      case round =>
        obtain ⟨u, hu0, hu1, hq, rfl⟩ := hrel
        have hcl : cnt ((x1.take (j + 1)).drop u) ≤ 101 := by
          have := cnt_le ((x1.take (j + 1)).drop u)
          rw [List.length_drop, List.length_take] at this
          omega
        cases u with
        | zero =>
          have e : ((0 : Nat) : Int) - 1 = -1 := by omega
          rw [e] at hq
          subst hq
          have hwn : W k (x1.take (j + 1)) = cnt ((x1.take (j + 1)).drop 0) := by
            rw [W_take k x1 (j + 1) (by have := HXL.out; omega), ← HS.out, show s = 0 by omega]
          rw [← hwn] at hcl ⊢
          obtain ⟨Wn, hWn⟩ : ∃ v, W k (x1.take (j + 1)) = v := ⟨_, rfl⟩
          rw [hWn] at hcl ⊢
          clear hwn
          have hwn := hWn
          clear hWn e
          have hA0 := HA0.out
          have HWN := Lib.hid hwn
          clear hwn
          have hlen : (x1.take (j + 1)).length = j + 1 := by rw [List.length_take]; have := HXL.out; omega
          by_cases hs1 : j + 1 < k
          · have hb : bad m k (x1.take (j + 1)) = false := by unfold bad; rw [hlen]; simp; omega
            rw [hb] at hA0
            have HA := Lib.hid hA0
            have hi1 : (j : Int) < (k : Int) - 1 := by omega
            have hi2 : decide ((j : Int) < (k : Int) - 1) = true := by simpa using hi1
            clear hA0 hb hs1 hlen
            go_wp2_with fail
            refine (HA.out _ M.P).mono ?_
            rintro e w3 ⟨rfl, ⟨F3, P3, f3⟩, k3⟩
            have M3 := M.onP k3 P3 f3
            clear M P3 f3 k3
            simp only [Bool.not_true, Bool.not_false]
            go_wp2_with fail
            go_roundw
            case rel => exact ⟨j + 1, F3, by omega, by go_num, M3⟩
            case measure => simp [intOf]; omega
          · by_cases hs2 : Wn < m
            · have hb : bad m k (x1.take (j + 1)) = true := by unfold bad; rw [hlen, HWN.out]; simp; omega
              rw [hb] at hA0
              have HA := Lib.hid hA0
              have hi1 : ¬ (j : Int) < (k : Int) - 1 := by omega
              have hi2 : decide ((j : Int) < (k : Int) - 1) = false := by simpa using hi1
              have hi3 : decide ((m : Int) ≤ (Wn : Int)) = false := by simpa using hs2
              have hi4 : decide (m ≤ Wn) = false := by simpa using hs2
              have hi5 : (Wn : Int) < (m : Int) := by omega
              clear hA0 hb hs1 hs2 hlen
              go_wp2_with fail
              refine (HA.out _ M.P).mono ?_
              rintro e w3 ⟨rfl, ⟨F3, P3, f3⟩, k3⟩
              have M3 := M.onP k3 P3 f3
              clear M P3 f3 k3
              simp only [Bool.not_true, Bool.not_false]
              go_wp2_with fail
              go_roundw
              case rel => exact ⟨j + 1, F3, by omega, by go_num, M3⟩
              case measure => simp [intOf]; omega
            · have hb : bad m k (x1.take (j + 1)) = false := by unfold bad; rw [hlen, HWN.out]; simp; omega
              rw [hb] at hA0
              have HA := Lib.hid hA0
              have hi1 : ¬ (j : Int) < (k : Int) - 1 := by omega
              have hi2 : decide ((j : Int) < (k : Int) - 1) = false := by simpa using hi1
              have hi3 : decide ((m : Int) ≤ (Wn : Int)) = true := by simp; omega
              have hi4 : decide (m ≤ Wn) = true := by simp; omega
              have hi5 : (m : Int) ≤ (Wn : Int) := by omega
              clear hA0 hb hs1 hs2 hlen
              go_wp2_with fail
              refine (HA.out _ M.P).mono ?_
              rintro e w3 ⟨rfl, ⟨F3, P3, f3⟩, k3⟩
              have M3 := M.onP k3 P3 f3
              clear M P3 f3 k3
              simp only [Bool.not_true, Bool.not_false]
              go_wp2_with fail
              go_roundw
              case rel => exact ⟨j + 1, F3, by omega, by go_num, M3⟩
              case measure => simp [intOf]; omega
        | succ u =>
          have e : ((u + 1 : Nat) : Int) - 1 = (u : Int) := by omega
          rw [e] at hq
          subst hq
          have hu2 : (0 : Int) ≤ (u : Int) := by omega
          have hu3 : (u : Int) < (n1 : Int) := by omega
          by_cases hlt2 : s < u + 1
          · obtain ⟨b2, off2, z, hA2, hz, _, hc2⟩ := HR.out u (by omega)
            cases hA2
            have hgt : (j : Int) - (k : Int) < (u : Int) := by have := HS.out; omega
            have hstep : cnt ((x1.take (j + 1)).drop u) = z.toNat + cnt ((x1.take (j + 1)).drop (u + 1)) := by
              have hz' : (x1.take (j + 1))[u]? = some z := by rw [List.getElem?_take_of_lt (by omega)]; exact hz
              rw [List.drop_eq_getElem_cons (List.getElem?_eq_some_iff.1 hz').1, (List.getElem?_eq_some_iff.1 hz').2, show z :: (x1.take (j + 1)).drop (u + 1) = [z] ++ (x1.take (j + 1)).drop (u + 1) from rfl, cnt_app, cnt_one]
            have HST := Lib.hid hstep
            clear hstep hz e
            go_wp2_with fail
            all_goals
              go_round
              case rel => exact ⟨u, by omega, by omega, rfl, by rw [HST.out, show z = _ from ‹_›]; simp; try omega⟩
              case measure => simp [intOf] <;> omega
          · have hgt : ¬ (j : Int) - (k : Int) < (u : Int) := by have := HS.out; omega
            have hwn : W k (x1.take (j + 1)) = cnt ((x1.take (j + 1)).drop (u + 1)) := by
              rw [W_take k x1 (j + 1) (by have := HXL.out; omega), ← HS.out, show s = u + 1 by omega]
            rw [← hwn] at hcl ⊢
            obtain ⟨Wn, hWn⟩ : ∃ v, W k (x1.take (j + 1)) = v := ⟨_, rfl⟩
            rw [hWn] at hcl ⊢
            clear hwn
            have hwn := hWn
            clear hWn e
            have hA0 := HA0.out
            have HWN := Lib.hid hwn
            clear hwn
            have hlen : (x1.take (j + 1)).length = j + 1 := by rw [List.length_take]; have := HXL.out; omega
            by_cases hs1 : j + 1 < k
            · have hb : bad m k (x1.take (j + 1)) = false := by unfold bad; rw [hlen]; simp; omega
              rw [hb] at hA0
              have HA := Lib.hid hA0
              have hi1 : (j : Int) < (k : Int) - 1 := by omega
              have hi2 : decide ((j : Int) < (k : Int) - 1) = true := by simpa using hi1
              clear hA0 hb hs1 hlen
              go_wp2_with fail
              refine (HA.out _ M.P).mono ?_
              rintro e w3 ⟨rfl, ⟨F3, P3, f3⟩, k3⟩
              have M3 := M.onP k3 P3 f3
              clear M P3 f3 k3
              simp only [Bool.not_true, Bool.not_false]
              go_wp2_with fail
              go_roundw
              case rel => exact ⟨j + 1, F3, by omega, by go_num, M3⟩
              case measure => simp [intOf]; omega
            · by_cases hs2 : Wn < m
              · have hb : bad m k (x1.take (j + 1)) = true := by unfold bad; rw [hlen, HWN.out]; simp; omega
                rw [hb] at hA0
                have HA := Lib.hid hA0
                have hi1 : ¬ (j : Int) < (k : Int) - 1 := by omega
                have hi2 : decide ((j : Int) < (k : Int) - 1) = false := by simpa using hi1
                have hi3 : decide ((m : Int) ≤ (Wn : Int)) = false := by simpa using hs2
                have hi4 : decide (m ≤ Wn) = false := by simpa using hs2
                have hi5 : (Wn : Int) < (m : Int) := by omega
                clear hA0 hb hs1 hs2 hlen
                go_wp2_with fail
                refine (HA.out _ M.P).mono ?_
                rintro e w3 ⟨rfl, ⟨F3, P3, f3⟩, k3⟩
                have M3 := M.onP k3 P3 f3
                clear M P3 f3 k3
                simp only [Bool.not_true, Bool.not_false]
                go_wp2_with fail
                go_roundw
                case rel => exact ⟨j + 1, F3, by omega, by go_num, M3⟩
                case measure => simp [intOf]; omega
              · have hb : bad m k (x1.take (j + 1)) = false := by unfold bad; rw [hlen, HWN.out]; simp; omega
                rw [hb] at hA0
                have HA := Lib.hid hA0
                have hi1 : ¬ (j : Int) < (k : Int) - 1 := by omega
                have hi2 : decide ((j : Int) < (k : Int) - 1) = false := by simpa using hi1
                have hi3 : decide ((m : Int) ≤ (Wn : Int)) = true := by simp; omega
                have hi4 : decide (m ≤ Wn) = true := by simp; omega
                have hi5 : (m : Int) ≤ (Wn : Int) := by omega
                clear hA0 hb hs1 hs2 hlen
                go_wp2_with fail
                refine (HA.out _ M.P).mono ?_
                rintro e w3 ⟨rfl, ⟨F3, P3, f3⟩, k3⟩
                have M3 := M.onP k3 P3 f3
                clear M P3 f3 k3
                simp only [Bool.not_true, Bool.not_false]
                go_wp2_with fail
                go_roundw
                case rel => exact ⟨j + 1, F3, by omega, by go_num, M3⟩
                case measure => simp [intOf]; omega
    · obtain rfl : j = n1 := by omega
      have hfull : x1.take j = x1 := List.take_of_length_le (by have := HXL.out; omega)
      rw [hfull] at M
      clear hfull r1
      have hbl := brk_len m k x1
      rw [HXL.out] at hbl
      have hwb := wst_brk m k x1 hm x1.length
      by_cases hk : j < k
      · have hW := fun W (h : Is W p F m k x1 (brk m k x1)) => worst_no h (by rw [HXL.out]; exact hk) h2
        have hk1 : (j : Int) < (k : Int) := by omega
        have hk2 : decide ((k : Int) ≤ (j : Int)) = false := by simp; omega
        have hk3 : decide (k ≤ j) = false := by simp; omega
        have HW := Lib.hid hW
        clear hW hwb hk
        go_wp2_with fail
        refine (HW.out _ M.P).mono ?_
        rintro e w5 ⟨rfl, D5⟩
        have M5 := M.keep (D5.keeps _)
        go_wp2_with fail
        go_ret
        exact ⟨rfl, M5.B⟩
      · have hW := fun W (h : Is W p F m k x1 (brk m k x1)) => worst_yes h (by rw [HXL.out]; omega) (by rw [HXL.out]; omega)
        have hk1 : (k : Int) ≤ (j : Int) := by omega
        have hk2 : decide ((k : Int) ≤ (j : Int)) = true := by simp; omega
        have hk3 : decide (k ≤ j) = true := by simp; omega
        have hwb : wst k x1 < m ↔ 0 < (brk m k x1).length := hwb
        generalize wst k x1 = wo at *
        generalize brk m k x1 = bs at *
        have hBR := fun W (h : Is W p F m k x1 bs) => broken_is h (by omega)
        obtain ⟨bl, hbl2⟩ : ∃ n, bs.length = n := ⟨_, rfl⟩
        rw [hbl2] at hBR hwb hbl
        have HW := Lib.hid hW
        have HBR := Lib.hid hBR
        clear hW hk hBR hbl2
        by_cases hc : wo < m
        · have c1 : (wo : Int) < (m : Int) := by omega
          have c2 : decide ((wo : Int) < (m : Int)) = true := by simpa using hc
          have c3 : decide (wo < m) = true := by simpa using hc
          have c4 : (0 : Int) < (bl : Int) := by have := hwb.1 hc; omega
          have c5 : decide ((0 : Int) < (bl : Int)) = true := by simpa using c4
          have c6 : decide (0 < bl) = true := by have := hwb.1 hc; simpa using this
          clear hwb hc
          go_wp2_with fail
          refine (HW.out _ M.P).mono ?_
          rintro e w5 ⟨rfl, D5⟩
          have M5 := M.keep (D5.keeps _)
          go_wp2_with fail
          refine (HBR.out _ M5.P).mono ?_
          rintro e w6 ⟨A6, c6', rfl, _, k6⟩
          have M6 := M5.keep k6
          go_wp2_with fail
          go_ret
          exact ⟨rfl, M6.B⟩
        · have c1 : ¬ (wo : Int) < (m : Int) := by omega
          have c2 : decide ((wo : Int) < (m : Int)) = false := by simpa using hc
          have c3 : decide (wo < m) = false := by simpa using hc
          have c4' : ¬ 0 < bl := fun h => hc (hwb.2 h)
          have c4 : ¬ (0 : Int) < (bl : Int) := by omega
          have c5 : decide ((0 : Int) < (bl : Int)) = false := by simpa using c4
          have c6 : decide (0 < bl) = false := by simpa using c4'
          clear hwb hc c4'
          go_wp2_with fail
          refine (HW.out _ M.P).mono ?_
          rintro e w5 ⟨rfl, D5⟩
          have M5 := M.keep (D5.keeps _)
          go_wp2_with fail
          refine (HBR.out _ M5.P).mono ?_
          rintro e w6 ⟨A6, c6', rfl, _, k6⟩
          have M6 := M5.keep k6
          go_wp2_with fail
          go_ret
          exact ⟨rfl, M6.B⟩
set_option maxRecDepth 100000 in
set_option maxHeartbeats 1000000 in
theorem walk_out (m k : Int) (A1 : Option Addr) (n1 c1 : Nat) (w : World) (hm1 : n1 ≤ 9223372036854775807) (h : ¬ (1 ≤ k ∧ k ≤ 64 ∧ 0 ≤ m ∧ m ≤ k ∧ n1 ≤ 100)) :
    Calls Try.prog 12 #[.int .i64 m, .int .i64 k, .slice A1 n1 c1] w fun e w' => e = .returned (.bool true) ∧ Below w.heap.size w w' := by
  go_enter Try.func12, Try.ntmps12
  go_wp2_with fail
  refine (awake_ok w).mono ?_
  rintro e wa ⟨rfl, ba⟩
  by_cases a1 : k < 1
  · clear h
    go_wp2_with fail
    go_ret
    exact ⟨rfl, ba⟩
  · by_cases a2 : 64 < k
    · clear h
      go_wp2_with fail
      go_ret
      exact ⟨rfl, ba⟩
    · by_cases a3 : m < 0
      · clear h
        go_wp2_with fail
        go_ret
        exact ⟨rfl, ba⟩
      · by_cases a4 : k < m
        · clear h
          go_wp2_with fail
          go_ret
          exact ⟨rfl, ba⟩
        · have a5 : (100 : Int) < (n1 : Int) := by omega
          clear h
          go_wp2_with fail
          go_ret
          exact ⟨rfl, ba⟩
theorem walk (m k : Int) (A1 : Option Addr) (n1 c1 : Nat) (x1 : List Bool) (w : World) (w0 : (Lit.int .i64 m).wf = true) (w1 : (Lit.int .i64 k).wf = true) (r1 : Row (fun x : Bool => [Value.bool x]) 1 w A1 n1 x1) :
    Calls Try.prog 12 #[.int .i64 m, .int .i64 k, .slice A1 n1 c1] w fun e w' => e = .returned (.bool true) ∧ Below w.heap.size w w' := by
  by_cases h : 1 ≤ k ∧ k ≤ 64 ∧ 0 ≤ m ∧ m ≤ k ∧ n1 ≤ 100
  · obtain ⟨K, rfl⟩ := Int.eq_ofNat_of_zero_le (show 0 ≤ k by omega)
    obtain ⟨M, rfl⟩ := Int.eq_ofNat_of_zero_le h.2.2.1
    exact walk_in M K A1 n1 c1 x1 w r1 (by omega) (by omega) (by omega) (by omega)
  · have m1 := r1.2.1
    unfold maxLen at m1
    exact walk_out m k A1 n1 c1 w m1 h
theorem own : ownKnob Try.prog.godebug = none := by kernel_rfl
theorem laidOut : laidOutB Try.prog = true := by kernel_rfl
set_option maxRecDepth 100000 in
theorem lifted (os : Os) (started : os.Started) (H : Type) (enc : TypeId × Value → H) :
    ReturnsInHanded {} Try.checked os 12 .any (Rows.firmWindowsSpec.pre6 enc Try.prog Try.f12 Rows.firmWindowsRow.domain false) (Rows.firmWindowsSpec.post enc Try.prog Try.f12 false true false false) := by
  refine returnsInHanded_of_change (C := Try.checked) own started (by kernel_rfl) Try.func12
    (ChangeSpec.witness6 (enc := enc) (C := Try.checked) false ⟨#[], #[.int .i64 0, .int .i64 0, .slice none 0 0], []⟩ 8 (by kernel_rfl) (by kernel_rfl) (by kernel_rfl) (by kernel_rfl)) ?_
  intro W base args ds gs before hval0 hW hcnd _
  have hval : ∀ (j : Nat) t v, Try.f12.params[j]? = some t → args[j]? = some v → Value.okWide Try.prog W .any base t v := hval0
  have hW' := hW
  obtain ⟨p, q, hA0, hV, rfl, hfz, hnd⟩ := hW
  have hA : DataW.TrodAll enc Try.prog W 0 (fun _ => true) true Try.f12.params.toList args.toList ds p := hA0
  rw [Try.params12] at hA hval
  obtain ⟨v0, vs0, d0, ds0, p0, q0, hargs, rfl, rfl, h0, r0⟩ := trodAll_cons hA
  obtain ⟨v1, vs1, d1, ds1, p1, q1, rfl, rfl, rfl, h1, r1⟩ := trodAll_cons r0
  obtain ⟨v2, vs2, d2, ds2, p2, q2, rfl, rfl, rfl, h2, r2⟩ := trodAll_cons r1
  obtain ⟨rfl, rfl, rfl⟩ := trodAll_nil r2
  obtain rfl : args = #[v0, v1, v2] := by cases args; simp_all
  obtain ⟨rfl, rfl⟩ := trodVars_none hV
  obtain ⟨a0, rfl, rfl, rfl, w0⟩ := open_int Try.underlying3 (hval 0 3 v0 rfl rfl) h0
  obtain ⟨a1, rfl, rfl, rfl, w1⟩ := open_int Try.underlying3 (hval 1 3 v1 rfl rfl) h1
  obtain ⟨A2, n2, c2, rfl⟩ := okWide_slice Try.underlying32 (hval 2 32 v2 rfl rfl)
  have k2 := h2
  have lt2 : ∀ x ∈ p2, x.block < W.heap.size := by obtain ⟨m, hm⟩ := k2; exact DataW.trod_lt m _ _ _ hm
  obtain ⟨x2, w2⟩ : ∃ xs, Row (fun x : Bool => [Value.bool x]) 1 W A2 n2 xs := by
    obtain ⟨fuel, hf⟩ := h2
    exact open_row _ 1 (by omega) Try.underlying32 (by kernel_rfl) (el_bool Try.underlying4) (by simpa [Value.cells] using hf)
  clear hA0 hval0
  refine (walk a0 a1 A2 n2 c2 x2 W w0 w1 w2).mono fun e W' ⟨he, bel⟩ => ?_
  subst he
  exact ⟨_, rfl, _, _, _, [], _, [], hW', trodAll_mk1 (shut_bool Try.underlying4 _), (trodAll_cons_mk (shut_int Try.underlying3 w0) (trodAll_cons_mk (shut_int Try.underlying3 w1) (trodAll_cons_mk (Below.trod laidOut (by kernel_rfl) (of_decide_eq_true (by kernel_rfl)) k2 bel lt2) trodAll_mk0))), rfl, bel.frame _, fun h => by cases h⟩
theorem over : Rows.firmWindowsRow.holds Try.pinned (OpenSpec.ofChange Rows.firmWindowsSpec) :=
  OpenClaim.holds_of_wide 12 Try.f12 rfl rfl rfl rfl rfl rfl rfl ⟨rfl, rfl, rfl, rfl, rfl⟩ rfl rfl rfl rfl rfl (by kernel_rfl) Try.func12 (by kernel_rfl)
    (of_decide_eq_true (by kernel_rfl)) (by unfold Func.isWrapper; first | (rw [if_pos (by decide +kernel)]; kernel_rfl) | (rw [if_neg (by decide +kernel)]; exact ⟨rfl, rfl⟩))
    (fun os started H enc _ => lifted os started H enc)
/-- The statement. -/
theorem proved : Rows.FirmWindowsSaid := over
#print axioms proved
end FirmWindows
end Go.Proofs.Ytpfhogbkbodfjab
