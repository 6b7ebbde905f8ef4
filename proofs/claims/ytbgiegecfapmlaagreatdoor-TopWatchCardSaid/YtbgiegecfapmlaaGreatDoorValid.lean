/- utf8.ValidString; conditions: at most a thousand bytes, the library's tables as its text lays them. -/
import Derived.Test.YtbgiegecfapmlaaGreatDoorUtfPlain
import Derived.BigQuiet
namespace Go.Proofs.YtbgiegecfapmlaaGreatDoor
open Go.RowKit
set_option linter.unusedVariables false
set_option linter.unusedSimpArgs false
namespace Utf
open Go.Lib (firstT accLo accHi)
def strLen : Value → Nat
  | .string u => u.size
  | _ => 0
/-- What holds of what is left. -/
def Left (s : ByteArray) (w : World) (v : Value) (wr : World) : Prop := ∃ u : ByteArray, v = .string u ∧ valid u = valid s ∧ u.size ≤ s.size ∧ Below w.heap.size w wr
theorem first_mod (c : Nat) : firstT c % 8 = 2 ∨ firstT c % 8 = 3 ∨ firstT c % 8 = 4 ∨ (firstT c % 8 = 0 ∧ c < 128) ∨ (firstT c % 8 = 1 ∧ 128 ≤ c) := by
  unfold firstT
  repeat' split
  all_goals omega
theorem first_lt (c : Nat) : firstT c < 256 ∧ firstT c / 16 < 16 := by
  unfold firstT
  repeat' split
  all_goals omega
theorem and7 : ∀ x : Nat, x < 256 → bits .and .u8 (x : Int) 7 = ((x % 8 : Nat) : Int) := by decide +kernel
/-- .. and in the quick loop. -/
def Left2 (s : ByteArray) (w : World) (u : ByteArray) (v : Value) (wr : World) : Prop := ∃ z : ByteArray, v = .string z ∧ valid z = valid s ∧ z.size < u.size ∧ Below w.heap.size w wr
set_option maxRecDepth 100000 in
set_option maxHeartbeats 8000000 in
theorem valid_any (s : ByteArray) (w : World) (T : Tabs w) (hs : s.size ≤ 100000) :
    Calls Tryz.prog 109 #[.string s] w fun e w' => e = .returned (.bool (valid s)) ∧ Below w.heap.size w w' := by
  have HT := Lib.hid T
  obtain ⟨vs, hvs⟩ : ∃ b, valid s = b := ⟨_, rfl⟩
  rw [hvs]
  have HV := Lib.hid hvs
  clear T hvs
  go_enter Tryz.func109, Tryz.ntmps109
  go_wp2_with fail
  go_loopw [0] (fun v wr => Left s w v wr) (fun v _ => strLen v)
  case atStart => exact ⟨s, rfl, rfl, Nat.le_refl _, Below.refl _ _⟩
  case round =>
    obtain ⟨u, rfl, hv, hu, B⟩ := hrel
    have HVU := Lib.hid hv
    clear hv
    by_cases h0 : u.size = 0
    · have hz : ¬ (0 : Int) < (u.size : Int) := by omega
      have hr : valid u = true := valid_nil u h0
      have HR : Hid (vs = true) := Lib.hid (by rw [← HV.out, ← HVU.out]; exact hr)
      clear h0 hr
      go_wp2_with fail
      go_ret
      exact ⟨by rw [HR.out]; rfl, B⟩
    · have hu0 : 0 < u.size := by omega
      have hu1 : (0 : Int) < (u.size : Int) := by omega
      obtain ⟨c, hc⟩ : ∃ c, (u[0]'hu0).toNat = c := ⟨_, rfl⟩
      have hcb : bt u 0 = c := (bt_eq u 0 hu0).trans hc
      have hc256 : c < 256 := by rw [← hcb]; exact bt_lt _ _
      clear h0
      by_cases ha : c < 128
      · have ha1 : (c : Int) < 128 := by omega
        have hval : valid u = valid (u.extract 1 u.size) := valid_go u hu0 (width_ascii u (by rw [hcb]; exact ha)) (by omega)
        have hsz := cut_size u 1
        unfold cut at hsz
        go_upto_region 5 with fail
        generalize u.extract 1 u.size = v at *
        have HVV : Hid (valid v = valid s) := Lib.hid (hval ▸ HVU.out)
        have hvu : v.size < u.size := by omega
        have hvs : v.size ≤ 100000 := by omega
        have hvss : v.size ≤ s.size := by omega
        clear hval hsz hc hcb ha hu0
        by_cases h8 : 8 < v.size
        · have h81 : (8 : Int) < (v.size : Int) := by omega
          have hw8 := word_is v
          obtain ⟨X, hX⟩ : ∃ X, wordX v = X := ⟨_, rfl⟩
          have hXl := wordX_lt v
          rw [hX] at hw8 hXl
          have HW8 := Lib.hid hw8
          have hand := and_hi X hXl
          clear hw8
          by_cases hz : X &&& hi = 0
          · have hzb : (bits .and .u64 (X : Int) 9259542123273814144 == 0) = true := by rw [hand, hz]; rfl
            have hval := skip8 v (by omega) (by rw [hX]; exact hz)
            have hsz := cut_size v 8
            unfold cut at hval hsz
            clear hand hX hXl hz
            go_wp2_with fail
            refine (HW8.out _ (by omega)).mono ?_
            rintro e w2 ⟨rfl, D2⟩
            have B2 := below_keeps B (D2.keeps (fun _ => False)) B.size (fun _ h => h.elim)
            clear B D2 HW8
            go_upto_region 7 with fail
            clear hzb h8 h81
            generalize v.extract 8 v.size = v2 at *
            have HV2 : Hid (valid v2 = valid s) := Lib.hid (hval ▸ HVV.out)
            have hv2u : v2.size < u.size := by omega
            have hv2s : v2.size ≤ 100000 := by omega
            have hv2ss : v2.size ≤ s.size := by omega
            clear hval HVV hsz hvu hvs hvss
            by_cases h16 : 16 < v2.size
            · have h161 : (16 : Int) < (v2.size : Int) := by omega
              have h162 : decide ((16 : Int) < (v2.size : Int)) = true := by simpa using h161
              have hY1 := fun n => quiet_drawn (n := n) (w := w2) (word_is v2 (w2.drewN n) (by omega))
              have hY2 := fun n => quiet_drawn (n := n) (w := w2) (word_is (cut v2 8) (w2.drewN n) (by rw [cut_size]; omega))
              have hval := skip16 v2 (by omega)
              have hsz2 := cut_size v2 16
              have hXa := wordX_lt v2
              have hXb := wordX_lt (cut v2 8)
              generalize wordX v2 = Xa at hY1 hval hXa
              generalize wordX (cut v2 8) = Xb at hY2 hval hXb
              unfold cut at hY2 hval hsz2
              obtain ⟨ho, hol⟩ := or_nat Xa Xb hXa hXb
              have hand := and_hi _ hol
              rw [← ho] at hand
              have HY1 := Lib.hid hY1
              have HY2 := Lib.hid hY2
              clear hY1 hY2 ho hol hXa hXb
              by_cases hz : (Xa ||| Xb) &&& hi = 0
              · have hzb : (bits .and .u64 (bits .or .u64 (Xa : Int) (Xb : Int)) 9259542123273814144 == 0) = true := by rw [hand, hz]; rfl
                have hval := hval hz
                clear hand hz h16
                go_quiet ((go_at_call 140; first | (with_reducible exact HY1.out _) | (with_reducible exact HY2.out _)))
                have B3 := below_keeps B2 ((Keeps.refl (fun _ => False) w2).drewN nq) B2.size (fun _ h => h.elim)
                clear B2 HY1 HY2
                generalize w2.drewN nq = w3 at *
                go_wp2_with fail
                clear hzb h161 h162
                generalize v2.extract 16 v2.size = v3 at *
                have HV3 : Hid (valid v3 = valid s) := Lib.hid (hval ▸ HV2.out)
                have hv3u : v3.size < u.size := by omega
                have hv3s : v3.size ≤ s.size := by omega
                clear hval HV2 hsz2 hv2u hv2s hv2ss
                go_loopw [0] (fun t wx => Left2 s w u t wx) (fun t _ => strLen t)
                case atStart => exact ⟨v3, rfl, HV3.out, hv3u, B3⟩
                case round =>
                  clear HV3 B3
                  obtain ⟨z, rfl, hzv, hzu, Bz⟩ := hrel
                  have HZ := Lib.hid hzv
                  clear hzv
                  by_cases h32 : 32 < z.size
                  · have h321 : (32 : Int) < (z.size : Int) := by omega
                    have h322 : decide ((32 : Int) < (z.size : Int)) = true := by simpa using h321
                    have hY1 := fun n => quiet_drawn (n := n) (w := wr) (word_is z (wr.drewN n) (by omega))
                    have hY2 := fun n => quiet_drawn (n := n) (w := wr) (word_is (cut z 8) (wr.drewN n) (by rw [cut_size]; omega))
                    have hY3 := fun n => quiet_drawn (n := n) (w := wr) (word_is (cut z 16) (wr.drewN n) (by rw [cut_size]; omega))
                    have hY4 := fun n => quiet_drawn (n := n) (w := wr) (word_is (cut z 24) (wr.drewN n) (by rw [cut_size]; omega))
                    have hval := skip32 z (by omega)
                    have hszz := cut_size z 32
                    have hXa := wordX_lt z
                    have hXb := wordX_lt (cut z 8)
                    have hXc := wordX_lt (cut z 16)
                    have hXd := wordX_lt (cut z 24)
                    generalize wordX z = Xa at hY1 hval hXa
                    generalize wordX (cut z 8) = Xb at hY2 hval hXb
                    generalize wordX (cut z 16) = Xc at hY3 hval hXc
                    generalize wordX (cut z 24) = Xd at hY4 hval hXd
                    unfold cut at hY2 hY3 hY4 hval hszz
                    obtain ⟨o1, l1⟩ := or_nat Xa Xb hXa hXb
                    obtain ⟨o2, l2⟩ := or_nat Xc Xd hXc hXd
                    obtain ⟨o3, l3⟩ := or_nat _ _ l1 l2
                    have hand := and_hi _ l3
                    rw [← o3, ← o1, ← o2] at hand
                    have HY1 := Lib.hid hY1
                    have HY2 := Lib.hid hY2
                    have HY3 := Lib.hid hY3
                    have HY4 := Lib.hid hY4
                    clear hY1 hY2 hY3 hY4 o1 o2 o3 l1 l2 l3 hXa hXb hXc hXd
                    by_cases hz : ((Xa ||| Xb) ||| (Xc ||| Xd)) &&& hi = 0
                    · have hzb : (bits .and .u64 (bits .or .u64 (bits .or .u64 (Xa : Int) (Xb : Int)) (bits .or .u64 (Xc : Int) (Xd : Int))) 9259542123273814144 == 0) = true := by rw [hand, hz]; rfl
                      have hval := hval hz
                      clear hand hz h32
                      go_wp2_with fail
                      go_quiet ((go_at_call 140; first | (with_reducible exact HY1.out _) | (with_reducible exact HY2.out _) | (with_reducible exact HY3.out _) | (with_reducible exact HY4.out _)))
                      have B4 := below_keeps Bz ((Keeps.refl (fun _ => False) wr).drewN nq) Bz.size (fun _ h => h.elim)
                      clear Bz HY1 HY2 HY3 HY4
                      generalize wr.drewN nq = w4 at *
                      go_wp2_with fail
                      go_roundw
                      case rel => exact ⟨_, rfl, hval ▸ HZ.out, by omega, B4⟩
                      case measure => simp only [strLen]; omega
                    · have hzb : (bits .and .u64 (bits .or .u64 (bits .or .u64 (Xa : Int) (Xb : Int)) (bits .or .u64 (Xc : Int) (Xd : Int))) 9259542123273814144 == 0) = false := by rw [hand]; simp; omega
                      clear hand hz h32 hval
                      go_wp2_with fail
                      go_quiet ((go_at_call 140; first | (with_reducible exact HY1.out _) | (with_reducible exact HY2.out _) | (with_reducible exact HY3.out _) | (with_reducible exact HY4.out _)))
                      have B4 := below_keeps Bz ((Keeps.refl (fun _ => False) wr).drewN nq) Bz.size (fun _ h => h.elim)
                      clear Bz HY1 HY2 HY3 HY4
                      generalize wr.drewN nq = w4 at *
                      go_wp2_with fail
                      go_roundw
                      case rel => exact ⟨z, rfl, HZ.out, by omega, B4⟩
                      case measure => simp only [strLen]; omega
                  · have h321 : ¬ (32 : Int) < (z.size : Int) := by omega
                    have h322 : decide ((32 : Int) < (z.size : Int)) = false := by simp; omega
                    clear h32
                    go_wp2_with fail
                    go_quiet (fail)
                    have B4 := below_keeps Bz ((Keeps.refl (fun _ => False) wr).drewN nq) Bz.size (fun _ h => h.elim)
                    clear Bz
                    generalize wr.drewN nq = w4 at *
                    go_wp2_with fail
                    go_roundw
                    case rel => exact ⟨z, rfl, HZ.out, by omega, B4⟩
                    case measure => simp only [strLen]; omega
              · have hzb : (bits .and .u64 (bits .or .u64 (Xa : Int) (Xb : Int)) 9259542123273814144 == 0) = false := by rw [hand]; simp; omega
                clear hand hz h16 hval
                go_quiet ((go_at_call 140; first | (with_reducible exact HY1.out _) | (with_reducible exact HY2.out _)))
                have B3 := below_keeps B2 ((Keeps.refl (fun _ => False) w2).drewN nq) B2.size (fun _ h => h.elim)
                clear B2 HY1 HY2
                generalize w2.drewN nq = w3 at *
                go_wp2_with fail
                go_roundw
                case rel => exact ⟨v2, rfl, HV2.out, by omega, B3⟩
                case measure => simp only [strLen]; omega
            · have h161 : ¬ (16 : Int) < (v2.size : Int) := by omega
              have h162 : decide ((16 : Int) < (v2.size : Int)) = false := by simp; omega
              clear h16
              go_quiet (fail)
              have B3 := below_keeps B2 ((Keeps.refl (fun _ => False) w2).drewN nq) B2.size (fun _ h => h.elim)
              clear B2
              generalize w2.drewN nq = w3 at *
              go_wp2_with fail
              go_roundw
              case rel => exact ⟨v2, rfl, HV2.out, by omega, B3⟩
              case measure => simp only [strLen]; omega
          · have hzb : (bits .and .u64 (X : Int) 9259542123273814144 == 0) = false := by rw [hand]; simp; omega
            clear hand hX hXl hz
            go_wp2_with fail
            refine (HW8.out _ (by omega)).mono ?_
            rintro e w2 ⟨rfl, D2⟩
            have B2 := below_keeps B (D2.keeps (fun _ => False)) B.size (fun _ h => h.elim)
            clear B D2 HW8
            go_wp2_with fail
            go_roundw
            case rel => exact ⟨v, rfl, HVV.out, hvss, B2⟩
            case measure => simp only [strLen]; omega
        · have h81 : ¬ (8 : Int) < (v.size : Int) := by omega
          clear h8
          go_wp2_with fail
          go_roundw
          case rel => exact ⟨v, rfl, HVV.out, hvss, B⟩
          case measure => simp only [strLen]; omega
      · have ha1 : ¬ (c : Int) < 128 := by omega
        have Tw := (HT.out.below B).u8
        have t1 : wr.cell? ⟨2, c, none⟩ = some (.int .u8 ((firstT c : Nat) : Int)) := Tw.1 c hc256
        have hf := first_lt c
        obtain ⟨a1, a2⟩ := Tw.2 (firstT c / 16) hf.2
        have hlo : lo u = accLo (firstT c / 16) := by unfold lo; rw [hcb]
        have hhi : hi2 u = accHi (firstT c / 16) := by unfold hi2; rw [hcb]
        rw [← hlo] at a1
        rw [← hhi] at a2
        have hx7 := and7 (firstT c) hf.1
        have hwd : width u = _ := rfl
        have hmod := first_mod c
        obtain ⟨i, hi⟩ : ∃ i, firstT c / 16 = i := ⟨_, rfl⟩
        rw [hi] at a1 a2 hf
        rw [Nat.mul_comm] at a1 a2
        obtain ⟨x, hx⟩ : ∃ x, firstT c = x := ⟨_, rfl⟩
        have hxs : (x : Int) / 16 = (i : Int) := by rw [← hi, ← hx]; omega
        have hi0 : (0 : Int) ≤ (i : Int) := by omega
        have hi16 : (i : Int) < 16 := by omega
        have hc0 : (0 : Int) ≤ (c : Int) := by omega
        have hc2 : (c : Int) < 256 := by omega
        rw [hx] at t1 hx7 hmod
        have hwidth : width u = if x % 8 = 2 then (if u.size < 2 ∨ bt u 1 < lo u ∨ hi2 u < bt u 1 then 0 else 2) else if x % 8 = 3 then (if u.size < 3 ∨ bt u 1 < lo u ∨ hi2 u < bt u 1 ∨ bt u 2 < 128 ∨ 191 < bt u 2 then 0 else 3) else if x % 8 = 4 then (if u.size < 4 ∨ bt u 1 < lo u ∨ hi2 u < bt u 1 ∨ bt u 2 < 128 ∨ 191 < bt u 2 ∨ bt u 3 < 128 ∨ 191 < bt u 3 then 0 else 4) else 0 := by
          unfold width
          rw [hcb, if_neg ha, hx]
        generalize lo u = l1 at *
        generalize hi2 u = l2 at *
        have HWD := Lib.hid hwidth
        have B2 := B.alloc B.size (.cells #[.int .u8 (l1 : Int), .int .u8 (l2 : Int)] 265)
        have X2 := Blk.new wr 265 [.int .u8 (l1 : Int), .int .u8 (l2 : Int)]
        have x20 : (wr.alloc (.cells #[.int .u8 (l1 : Int), .int .u8 (l2 : Int)] 265)).cell? ⟨wr.heap.size, 0, none⟩ = some (.int .u8 (l1 : Int)) := X2.cellAt (i := 0) rfl
        have x21 : (wr.alloc (.cells #[.int .u8 (l1 : Int), .int .u8 (l2 : Int)] 265)).cell? ⟨wr.heap.size, 1, none⟩ = some (.int .u8 (l2 : Int)) := X2.cellAt (i := 1) rfl
        clear hlo hhi hwd hwidth Tw hi hx hcb ha X2 hf hc256
        rcases hmod with hm | hm | hm | hm | hm
        · skip
          have hx7b : bits .and .u8 (x : Int) 7 = 2 := by rw [hx7, hm]; rfl
          have HWD := Lib.hid (by have := HWD.out; rw [if_pos hm] at this; exact this)
          clear hx7 hm
          by_cases g0 : u.size < 2
          · skip
            have hw : width u = 0 := by rw [HWD.out, if_pos (by omega)]
            have HR : Hid (vs = false) := Lib.hid (by rw [← HV.out, ← HVU.out]; exact valid_bad u hu0 hw)
            have p0 : (u.size : Int) < (2 : Int) := by omega
            have q0 : decide ((u.size : Int) < (2 : Int)) = true := by simp; omega
            have r0 : decide ((u.size : Nat) < 2) = true := by simp; omega
            clear g0 hw HWD
            go_wp2_with fail
            go_quiet (fail)
            have B3 := below_keeps B2 ((Keeps.refl (fun _ => False) _).drewN nq) B2.size (fun _ h => h.elim)
            go_wp2_with fail
            go_ret
            exact ⟨by rw [HR.out]; rfl, B3⟩
          · skip
            have hs1 : 1 < u.size := by omega
            have hsi1 : (1 : Int) < (u.size : Int) := by omega
            obtain ⟨y1, hy1⟩ : ∃ y, (u[1]'hs1).toNat = y := ⟨_, rfl⟩
            have hb1 : bt u 1 = y1 := (bt_eq u 1 hs1).trans hy1
            have hyl1 : y1 < 256 := by rw [← hb1]; exact bt_lt _ _
            have HWD := Lib.hid (by have := HWD.out; rw [hb1] at this; exact this)
            clear hb1
            by_cases g1 : y1 < l1
            · skip
              have hw : width u = 0 := by rw [HWD.out, if_pos (by omega)]
              have HR : Hid (vs = false) := Lib.hid (by rw [← HV.out, ← HVU.out]; exact valid_bad u hu0 hw)
              have p0 : ¬ (u.size : Int) < (2 : Int) := by omega
              have q0 : decide ((u.size : Int) < (2 : Int)) = false := by simp; omega
              have r0 : decide ((u.size : Nat) < 2) = false := by simp; omega
              have p1 : (y1 : Int) < (l1 : Int) := by omega
              have q1 : decide ((y1 : Int) < (l1 : Int)) = true := by simp; omega
              have r1 : decide ((y1 : Nat) < l1) = true := by simp; omega
              clear g0 g1 hw HWD
              go_wp2_with fail
              go_quiet (fail)
              have B3 := below_keeps B2 ((Keeps.refl (fun _ => False) _).drewN nq) B2.size (fun _ h => h.elim)
              go_wp2_with fail
              go_ret
              exact ⟨by rw [HR.out]; rfl, B3⟩
            · skip
              by_cases g2 : l2 < y1
              · skip
                have hw : width u = 0 := by rw [HWD.out, if_pos (by omega)]
                have HR : Hid (vs = false) := Lib.hid (by rw [← HV.out, ← HVU.out]; exact valid_bad u hu0 hw)
                have p0 : ¬ (u.size : Int) < (2 : Int) := by omega
                have q0 : decide ((u.size : Int) < (2 : Int)) = false := by simp; omega
                have r0 : decide ((u.size : Nat) < 2) = false := by simp; omega
                have p1 : ¬ (y1 : Int) < (l1 : Int) := by omega
                have q1 : decide ((y1 : Int) < (l1 : Int)) = false := by simp; omega
                have r1 : decide ((y1 : Nat) < l1) = false := by simp; omega
                have p2 : (l2 : Int) < (y1 : Int) := by omega
                have q2 : decide ((l2 : Int) < (y1 : Int)) = true := by simp; omega
                have r2 : decide ((l2 : Nat) < y1) = true := by simp; omega
                clear g0 g1 g2 hw HWD
                go_wp2_with fail
                go_quiet (fail)
                have B3 := below_keeps B2 ((Keeps.refl (fun _ => False) _).drewN nq) B2.size (fun _ h => h.elim)
                go_wp2_with fail
                go_ret
                exact ⟨by rw [HR.out]; rfl, B3⟩
              · skip
                have hw : width u = 2 := by rw [HWD.out, if_neg (by omega)]
                have hval := valid_go u hu0 hw (by omega)
                have hsz := cut_size u 2
                unfold cut at hval hsz
                have HVN : Hid (valid (u.extract 2 u.size) = valid s) := Lib.hid (hval ▸ HVU.out)
                have HSZ := Lib.hid hsz
                have p0 : ¬ (u.size : Int) < (2 : Int) := by omega
                have q0 : decide ((u.size : Int) < (2 : Int)) = false := by simp; omega
                have r0 : decide ((u.size : Nat) < 2) = false := by simp; omega
                have p1 : ¬ (y1 : Int) < (l1 : Int) := by omega
                have q1 : decide ((y1 : Int) < (l1 : Int)) = false := by simp; omega
                have r1 : decide ((y1 : Nat) < l1) = false := by simp; omega
                have p2 : ¬ (l2 : Int) < (y1 : Int) := by omega
                have q2 : decide ((l2 : Int) < (y1 : Int)) = false := by simp; omega
                have r2 : decide ((l2 : Nat) < y1) = false := by simp; omega
                clear g0 g1 g2 hw HWD hval hsz
                go_wp2_with fail
                go_quiet (fail)
                have B3 := below_keeps B2 ((Keeps.refl (fun _ => False) _).drewN nq) B2.size (fun _ h => h.elim)
                go_wp2_with fail
                go_roundw
                case rel => exact ⟨_, rfl, HVN.out, by have := HSZ.out; omega, B3⟩
                case measure => have := HSZ.out; simp only [strLen]; omega
        · skip
          have hx7b : bits .and .u8 (x : Int) 7 = 3 := by rw [hx7, hm]; rfl
          have HWD := Lib.hid (by have := HWD.out; rw [if_neg (by omega), if_pos hm] at this; exact this)
          clear hx7 hm
          by_cases g0 : u.size < 3
          · skip
            have hw : width u = 0 := by rw [HWD.out, if_pos (by omega)]
            have HR : Hid (vs = false) := Lib.hid (by rw [← HV.out, ← HVU.out]; exact valid_bad u hu0 hw)
            have p0 : (u.size : Int) < (3 : Int) := by omega
            have q0 : decide ((u.size : Int) < (3 : Int)) = true := by simp; omega
            have r0 : decide ((u.size : Nat) < 3) = true := by simp; omega
            clear g0 hw HWD
            go_wp2_with fail
            go_quiet (fail)
            have B3 := below_keeps B2 ((Keeps.refl (fun _ => False) _).drewN nq) B2.size (fun _ h => h.elim)
            go_wp2_with fail
            go_ret
            exact ⟨by rw [HR.out]; rfl, B3⟩
          · skip
            have hs1 : 1 < u.size := by omega
            have hsi1 : (1 : Int) < (u.size : Int) := by omega
            obtain ⟨y1, hy1⟩ : ∃ y, (u[1]'hs1).toNat = y := ⟨_, rfl⟩
            have hb1 : bt u 1 = y1 := (bt_eq u 1 hs1).trans hy1
            have hyl1 : y1 < 256 := by rw [← hb1]; exact bt_lt _ _
            have hs2 : 2 < u.size := by omega
            have hsi2 : (2 : Int) < (u.size : Int) := by omega
            obtain ⟨y2, hy2⟩ : ∃ y, (u[2]'hs2).toNat = y := ⟨_, rfl⟩
            have hb2 : bt u 2 = y2 := (bt_eq u 2 hs2).trans hy2
            have hyl2 : y2 < 256 := by rw [← hb2]; exact bt_lt _ _
            have HWD := Lib.hid (by have := HWD.out; rw [hb1, hb2] at this; exact this)
            clear hb1 hb2
            by_cases g1 : y1 < l1
            · skip
              have hw : width u = 0 := by rw [HWD.out, if_pos (by omega)]
              have HR : Hid (vs = false) := Lib.hid (by rw [← HV.out, ← HVU.out]; exact valid_bad u hu0 hw)
              have p0 : ¬ (u.size : Int) < (3 : Int) := by omega
              have q0 : decide ((u.size : Int) < (3 : Int)) = false := by simp; omega
              have r0 : decide ((u.size : Nat) < 3) = false := by simp; omega
              have p1 : (y1 : Int) < (l1 : Int) := by omega
              have q1 : decide ((y1 : Int) < (l1 : Int)) = true := by simp; omega
              have r1 : decide ((y1 : Nat) < l1) = true := by simp; omega
              clear g0 g1 hw HWD
              go_wp2_with fail
              go_quiet (fail)
              have B3 := below_keeps B2 ((Keeps.refl (fun _ => False) _).drewN nq) B2.size (fun _ h => h.elim)
              go_wp2_with fail
              go_ret
              exact ⟨by rw [HR.out]; rfl, B3⟩
            · skip
              by_cases g2 : l2 < y1
              · skip
                have hw : width u = 0 := by rw [HWD.out, if_pos (by omega)]
                have HR : Hid (vs = false) := Lib.hid (by rw [← HV.out, ← HVU.out]; exact valid_bad u hu0 hw)
                have p0 : ¬ (u.size : Int) < (3 : Int) := by omega
                have q0 : decide ((u.size : Int) < (3 : Int)) = false := by simp; omega
                have r0 : decide ((u.size : Nat) < 3) = false := by simp; omega
                have p1 : ¬ (y1 : Int) < (l1 : Int) := by omega
                have q1 : decide ((y1 : Int) < (l1 : Int)) = false := by simp; omega
                have r1 : decide ((y1 : Nat) < l1) = false := by simp; omega
                have p2 : (l2 : Int) < (y1 : Int) := by omega
                have q2 : decide ((l2 : Int) < (y1 : Int)) = true := by simp; omega
                have r2 : decide ((l2 : Nat) < y1) = true := by simp; omega
                clear g0 g1 g2 hw HWD
                go_wp2_with fail
                go_quiet (fail)
                have B3 := below_keeps B2 ((Keeps.refl (fun _ => False) _).drewN nq) B2.size (fun _ h => h.elim)
                go_wp2_with fail
                go_ret
                exact ⟨by rw [HR.out]; rfl, B3⟩
              · skip
                by_cases g3 : y2 < 128
                · skip
                  have hw : width u = 0 := by rw [HWD.out, if_pos (by omega)]
                  have HR : Hid (vs = false) := Lib.hid (by rw [← HV.out, ← HVU.out]; exact valid_bad u hu0 hw)
                  have p0 : ¬ (u.size : Int) < (3 : Int) := by omega
                  have q0 : decide ((u.size : Int) < (3 : Int)) = false := by simp; omega
                  have r0 : decide ((u.size : Nat) < 3) = false := by simp; omega
                  have p1 : ¬ (y1 : Int) < (l1 : Int) := by omega
                  have q1 : decide ((y1 : Int) < (l1 : Int)) = false := by simp; omega
                  have r1 : decide ((y1 : Nat) < l1) = false := by simp; omega
                  have p2 : ¬ (l2 : Int) < (y1 : Int) := by omega
                  have q2 : decide ((l2 : Int) < (y1 : Int)) = false := by simp; omega
                  have r2 : decide ((l2 : Nat) < y1) = false := by simp; omega
                  have p3 : (y2 : Int) < (128 : Int) := by omega
                  have q3 : decide ((y2 : Int) < (128 : Int)) = true := by simp; omega
                  have r3 : decide ((y2 : Nat) < 128) = true := by simp; omega
                  clear g0 g1 g2 g3 hw HWD
                  go_wp2_with fail
                  go_quiet (fail)
                  have B3 := below_keeps B2 ((Keeps.refl (fun _ => False) _).drewN nq) B2.size (fun _ h => h.elim)
                  go_wp2_with fail
                  go_ret
                  exact ⟨by rw [HR.out]; rfl, B3⟩
                · skip
                  by_cases g4 : 191 < y2
                  · skip
                    have hw : width u = 0 := by rw [HWD.out, if_pos (by omega)]
                    have HR : Hid (vs = false) := Lib.hid (by rw [← HV.out, ← HVU.out]; exact valid_bad u hu0 hw)
                    have p0 : ¬ (u.size : Int) < (3 : Int) := by omega
                    have q0 : decide ((u.size : Int) < (3 : Int)) = false := by simp; omega
                    have r0 : decide ((u.size : Nat) < 3) = false := by simp; omega
                    have p1 : ¬ (y1 : Int) < (l1 : Int) := by omega
                    have q1 : decide ((y1 : Int) < (l1 : Int)) = false := by simp; omega
                    have r1 : decide ((y1 : Nat) < l1) = false := by simp; omega
                    have p2 : ¬ (l2 : Int) < (y1 : Int) := by omega
                    have q2 : decide ((l2 : Int) < (y1 : Int)) = false := by simp; omega
                    have r2 : decide ((l2 : Nat) < y1) = false := by simp; omega
                    have p3 : ¬ (y2 : Int) < (128 : Int) := by omega
                    have q3 : decide ((y2 : Int) < (128 : Int)) = false := by simp; omega
                    have r3 : decide ((y2 : Nat) < 128) = false := by simp; omega
                    have p4 : (191 : Int) < (y2 : Int) := by omega
                    have q4 : decide ((191 : Int) < (y2 : Int)) = true := by simp; omega
                    have r4 : decide ((191 : Nat) < y2) = true := by simp; omega
                    clear g0 g1 g2 g3 g4 hw HWD
                    go_wp2_with fail
                    go_quiet (fail)
                    have B3 := below_keeps B2 ((Keeps.refl (fun _ => False) _).drewN nq) B2.size (fun _ h => h.elim)
                    go_wp2_with fail
                    go_ret
                    exact ⟨by rw [HR.out]; rfl, B3⟩
                  · skip
                    have hw : width u = 3 := by rw [HWD.out, if_neg (by omega)]
                    have hval := valid_go u hu0 hw (by omega)
                    have hsz := cut_size u 3
                    unfold cut at hval hsz
                    have HVN : Hid (valid (u.extract 3 u.size) = valid s) := Lib.hid (hval ▸ HVU.out)
                    have HSZ := Lib.hid hsz
                    have p0 : ¬ (u.size : Int) < (3 : Int) := by omega
                    have q0 : decide ((u.size : Int) < (3 : Int)) = false := by simp; omega
                    have r0 : decide ((u.size : Nat) < 3) = false := by simp; omega
                    have p1 : ¬ (y1 : Int) < (l1 : Int) := by omega
                    have q1 : decide ((y1 : Int) < (l1 : Int)) = false := by simp; omega
                    have r1 : decide ((y1 : Nat) < l1) = false := by simp; omega
                    have p2 : ¬ (l2 : Int) < (y1 : Int) := by omega
                    have q2 : decide ((l2 : Int) < (y1 : Int)) = false := by simp; omega
                    have r2 : decide ((l2 : Nat) < y1) = false := by simp; omega
                    have p3 : ¬ (y2 : Int) < (128 : Int) := by omega
                    have q3 : decide ((y2 : Int) < (128 : Int)) = false := by simp; omega
                    have r3 : decide ((y2 : Nat) < 128) = false := by simp; omega
                    have p4 : ¬ (191 : Int) < (y2 : Int) := by omega
                    have q4 : decide ((191 : Int) < (y2 : Int)) = false := by simp; omega
                    have r4 : decide ((191 : Nat) < y2) = false := by simp; omega
                    clear g0 g1 g2 g3 g4 hw HWD hval hsz
                    go_wp2_with fail
                    go_quiet (fail)
                    have B3 := below_keeps B2 ((Keeps.refl (fun _ => False) _).drewN nq) B2.size (fun _ h => h.elim)
                    go_wp2_with fail
                    go_roundw
                    case rel => exact ⟨_, rfl, HVN.out, by have := HSZ.out; omega, B3⟩
                    case measure => have := HSZ.out; simp only [strLen]; omega
        · skip
          have hx7b : bits .and .u8 (x : Int) 7 = 4 := by rw [hx7, hm]; rfl
          have HWD := Lib.hid (by have := HWD.out; rw [if_neg (by omega), if_neg (by omega), if_pos hm] at this; exact this)
          clear hx7 hm
          by_cases g0 : u.size < 4
          · skip
            have hw : width u = 0 := by rw [HWD.out, if_pos (by omega)]
            have HR : Hid (vs = false) := Lib.hid (by rw [← HV.out, ← HVU.out]; exact valid_bad u hu0 hw)
            have p0 : (u.size : Int) < (4 : Int) := by omega
            have q0 : decide ((u.size : Int) < (4 : Int)) = true := by simp; omega
            have r0 : decide ((u.size : Nat) < 4) = true := by simp; omega
            clear g0 hw HWD
            go_wp2_with fail
            go_quiet (fail)
            have B3 := below_keeps B2 ((Keeps.refl (fun _ => False) _).drewN nq) B2.size (fun _ h => h.elim)
            go_wp2_with fail
            go_ret
            exact ⟨by rw [HR.out]; rfl, B3⟩
          · skip
            have hs1 : 1 < u.size := by omega
            have hsi1 : (1 : Int) < (u.size : Int) := by omega
            obtain ⟨y1, hy1⟩ : ∃ y, (u[1]'hs1).toNat = y := ⟨_, rfl⟩
            have hb1 : bt u 1 = y1 := (bt_eq u 1 hs1).trans hy1
            have hyl1 : y1 < 256 := by rw [← hb1]; exact bt_lt _ _
            have hs2 : 2 < u.size := by omega
            have hsi2 : (2 : Int) < (u.size : Int) := by omega
            obtain ⟨y2, hy2⟩ : ∃ y, (u[2]'hs2).toNat = y := ⟨_, rfl⟩
            have hb2 : bt u 2 = y2 := (bt_eq u 2 hs2).trans hy2
            have hyl2 : y2 < 256 := by rw [← hb2]; exact bt_lt _ _
            have hs3 : 3 < u.size := by omega
            have hsi3 : (3 : Int) < (u.size : Int) := by omega
            obtain ⟨y3, hy3⟩ : ∃ y, (u[3]'hs3).toNat = y := ⟨_, rfl⟩
            have hb3 : bt u 3 = y3 := (bt_eq u 3 hs3).trans hy3
            have hyl3 : y3 < 256 := by rw [← hb3]; exact bt_lt _ _
            have HWD := Lib.hid (by have := HWD.out; rw [hb1, hb2, hb3] at this; exact this)
            clear hb1 hb2 hb3
            by_cases g1 : y1 < l1
            · skip
              have hw : width u = 0 := by rw [HWD.out, if_pos (by omega)]
              have HR : Hid (vs = false) := Lib.hid (by rw [← HV.out, ← HVU.out]; exact valid_bad u hu0 hw)
              have p0 : ¬ (u.size : Int) < (4 : Int) := by omega
              have q0 : decide ((u.size : Int) < (4 : Int)) = false := by simp; omega
              have r0 : decide ((u.size : Nat) < 4) = false := by simp; omega
              have p1 : (y1 : Int) < (l1 : Int) := by omega
              have q1 : decide ((y1 : Int) < (l1 : Int)) = true := by simp; omega
              have r1 : decide ((y1 : Nat) < l1) = true := by simp; omega
              clear g0 g1 hw HWD
              go_wp2_with fail
              go_quiet (fail)
              have B3 := below_keeps B2 ((Keeps.refl (fun _ => False) _).drewN nq) B2.size (fun _ h => h.elim)
              go_wp2_with fail
              go_ret
              exact ⟨by rw [HR.out]; rfl, B3⟩
            · skip
              by_cases g2 : l2 < y1
              · skip
                have hw : width u = 0 := by rw [HWD.out, if_pos (by omega)]
                have HR : Hid (vs = false) := Lib.hid (by rw [← HV.out, ← HVU.out]; exact valid_bad u hu0 hw)
                have p0 : ¬ (u.size : Int) < (4 : Int) := by omega
                have q0 : decide ((u.size : Int) < (4 : Int)) = false := by simp; omega
                have r0 : decide ((u.size : Nat) < 4) = false := by simp; omega
                have p1 : ¬ (y1 : Int) < (l1 : Int) := by omega
                have q1 : decide ((y1 : Int) < (l1 : Int)) = false := by simp; omega
                have r1 : decide ((y1 : Nat) < l1) = false := by simp; omega
                have p2 : (l2 : Int) < (y1 : Int) := by omega
                have q2 : decide ((l2 : Int) < (y1 : Int)) = true := by simp; omega
                have r2 : decide ((l2 : Nat) < y1) = true := by simp; omega
                clear g0 g1 g2 hw HWD
                go_wp2_with fail
                go_quiet (fail)
                have B3 := below_keeps B2 ((Keeps.refl (fun _ => False) _).drewN nq) B2.size (fun _ h => h.elim)
                go_wp2_with fail
                go_ret
                exact ⟨by rw [HR.out]; rfl, B3⟩
              · skip
                by_cases g3 : y2 < 128
                · skip
                  have hw : width u = 0 := by rw [HWD.out, if_pos (by omega)]
                  have HR : Hid (vs = false) := Lib.hid (by rw [← HV.out, ← HVU.out]; exact valid_bad u hu0 hw)
                  have p0 : ¬ (u.size : Int) < (4 : Int) := by omega
                  have q0 : decide ((u.size : Int) < (4 : Int)) = false := by simp; omega
                  have r0 : decide ((u.size : Nat) < 4) = false := by simp; omega
                  have p1 : ¬ (y1 : Int) < (l1 : Int) := by omega
                  have q1 : decide ((y1 : Int) < (l1 : Int)) = false := by simp; omega
                  have r1 : decide ((y1 : Nat) < l1) = false := by simp; omega
                  have p2 : ¬ (l2 : Int) < (y1 : Int) := by omega
                  have q2 : decide ((l2 : Int) < (y1 : Int)) = false := by simp; omega
                  have r2 : decide ((l2 : Nat) < y1) = false := by simp; omega
                  have p3 : (y2 : Int) < (128 : Int) := by omega
                  have q3 : decide ((y2 : Int) < (128 : Int)) = true := by simp; omega
                  have r3 : decide ((y2 : Nat) < 128) = true := by simp; omega
                  clear g0 g1 g2 g3 hw HWD
                  go_wp2_with fail
                  go_quiet (fail)
                  have B3 := below_keeps B2 ((Keeps.refl (fun _ => False) _).drewN nq) B2.size (fun _ h => h.elim)
                  go_wp2_with fail
                  go_ret
                  exact ⟨by rw [HR.out]; rfl, B3⟩
                · skip
                  by_cases g4 : 191 < y2
                  · skip
                    have hw : width u = 0 := by rw [HWD.out, if_pos (by omega)]
                    have HR : Hid (vs = false) := Lib.hid (by rw [← HV.out, ← HVU.out]; exact valid_bad u hu0 hw)
                    have p0 : ¬ (u.size : Int) < (4 : Int) := by omega
                    have q0 : decide ((u.size : Int) < (4 : Int)) = false := by simp; omega
                    have r0 : decide ((u.size : Nat) < 4) = false := by simp; omega
                    have p1 : ¬ (y1 : Int) < (l1 : Int) := by omega
                    have q1 : decide ((y1 : Int) < (l1 : Int)) = false := by simp; omega
                    have r1 : decide ((y1 : Nat) < l1) = false := by simp; omega
                    have p2 : ¬ (l2 : Int) < (y1 : Int) := by omega
                    have q2 : decide ((l2 : Int) < (y1 : Int)) = false := by simp; omega
                    have r2 : decide ((l2 : Nat) < y1) = false := by simp; omega
                    have p3 : ¬ (y2 : Int) < (128 : Int) := by omega
                    have q3 : decide ((y2 : Int) < (128 : Int)) = false := by simp; omega
                    have r3 : decide ((y2 : Nat) < 128) = false := by simp; omega
                    have p4 : (191 : Int) < (y2 : Int) := by omega
                    have q4 : decide ((191 : Int) < (y2 : Int)) = true := by simp; omega
                    have r4 : decide ((191 : Nat) < y2) = true := by simp; omega
                    clear g0 g1 g2 g3 g4 hw HWD
                    go_wp2_with fail
                    go_quiet (fail)
                    have B3 := below_keeps B2 ((Keeps.refl (fun _ => False) _).drewN nq) B2.size (fun _ h => h.elim)
                    go_wp2_with fail
                    go_ret
                    exact ⟨by rw [HR.out]; rfl, B3⟩
                  · skip
                    by_cases g5 : y3 < 128
                    · skip
                      have hw : width u = 0 := by rw [HWD.out, if_pos (by omega)]
                      have HR : Hid (vs = false) := Lib.hid (by rw [← HV.out, ← HVU.out]; exact valid_bad u hu0 hw)
                      have p0 : ¬ (u.size : Int) < (4 : Int) := by omega
                      have q0 : decide ((u.size : Int) < (4 : Int)) = false := by simp; omega
                      have r0 : decide ((u.size : Nat) < 4) = false := by simp; omega
                      have p1 : ¬ (y1 : Int) < (l1 : Int) := by omega
                      have q1 : decide ((y1 : Int) < (l1 : Int)) = false := by simp; omega
                      have r1 : decide ((y1 : Nat) < l1) = false := by simp; omega
                      have p2 : ¬ (l2 : Int) < (y1 : Int) := by omega
                      have q2 : decide ((l2 : Int) < (y1 : Int)) = false := by simp; omega
                      have r2 : decide ((l2 : Nat) < y1) = false := by simp; omega
                      have p3 : ¬ (y2 : Int) < (128 : Int) := by omega
                      have q3 : decide ((y2 : Int) < (128 : Int)) = false := by simp; omega
                      have r3 : decide ((y2 : Nat) < 128) = false := by simp; omega
                      have p4 : ¬ (191 : Int) < (y2 : Int) := by omega
                      have q4 : decide ((191 : Int) < (y2 : Int)) = false := by simp; omega
                      have r4 : decide ((191 : Nat) < y2) = false := by simp; omega
                      have p5 : (y3 : Int) < (128 : Int) := by omega
                      have q5 : decide ((y3 : Int) < (128 : Int)) = true := by simp; omega
                      have r5 : decide ((y3 : Nat) < 128) = true := by simp; omega
                      clear g0 g1 g2 g3 g4 g5 hw HWD
                      go_wp2_with fail
                      go_quiet (fail)
                      have B3 := below_keeps B2 ((Keeps.refl (fun _ => False) _).drewN nq) B2.size (fun _ h => h.elim)
                      go_wp2_with fail
                      go_ret
                      exact ⟨by rw [HR.out]; rfl, B3⟩
                    · skip
                      by_cases g6 : 191 < y3
                      · skip
                        have hw : width u = 0 := by rw [HWD.out, if_pos (by omega)]
                        have HR : Hid (vs = false) := Lib.hid (by rw [← HV.out, ← HVU.out]; exact valid_bad u hu0 hw)
                        have p0 : ¬ (u.size : Int) < (4 : Int) := by omega
                        have q0 : decide ((u.size : Int) < (4 : Int)) = false := by simp; omega
                        have r0 : decide ((u.size : Nat) < 4) = false := by simp; omega
                        have p1 : ¬ (y1 : Int) < (l1 : Int) := by omega
                        have q1 : decide ((y1 : Int) < (l1 : Int)) = false := by simp; omega
                        have r1 : decide ((y1 : Nat) < l1) = false := by simp; omega
                        have p2 : ¬ (l2 : Int) < (y1 : Int) := by omega
                        have q2 : decide ((l2 : Int) < (y1 : Int)) = false := by simp; omega
                        have r2 : decide ((l2 : Nat) < y1) = false := by simp; omega
                        have p3 : ¬ (y2 : Int) < (128 : Int) := by omega
                        have q3 : decide ((y2 : Int) < (128 : Int)) = false := by simp; omega
                        have r3 : decide ((y2 : Nat) < 128) = false := by simp; omega
                        have p4 : ¬ (191 : Int) < (y2 : Int) := by omega
                        have q4 : decide ((191 : Int) < (y2 : Int)) = false := by simp; omega
                        have r4 : decide ((191 : Nat) < y2) = false := by simp; omega
                        have p5 : ¬ (y3 : Int) < (128 : Int) := by omega
                        have q5 : decide ((y3 : Int) < (128 : Int)) = false := by simp; omega
                        have r5 : decide ((y3 : Nat) < 128) = false := by simp; omega
                        have p6 : (191 : Int) < (y3 : Int) := by omega
                        have q6 : decide ((191 : Int) < (y3 : Int)) = true := by simp; omega
                        have r6 : decide ((191 : Nat) < y3) = true := by simp; omega
                        clear g0 g1 g2 g3 g4 g5 g6 hw HWD
                        go_wp2_with fail
                        go_quiet (fail)
                        have B3 := below_keeps B2 ((Keeps.refl (fun _ => False) _).drewN nq) B2.size (fun _ h => h.elim)
                        go_wp2_with fail
                        go_ret
                        exact ⟨by rw [HR.out]; rfl, B3⟩
                      · skip
                        have hw : width u = 4 := by rw [HWD.out, if_neg (by omega)]
                        have hval := valid_go u hu0 hw (by omega)
                        have hsz := cut_size u 4
                        unfold cut at hval hsz
                        have HVN : Hid (valid (u.extract 4 u.size) = valid s) := Lib.hid (hval ▸ HVU.out)
                        have HSZ := Lib.hid hsz
                        have p0 : ¬ (u.size : Int) < (4 : Int) := by omega
                        have q0 : decide ((u.size : Int) < (4 : Int)) = false := by simp; omega
                        have r0 : decide ((u.size : Nat) < 4) = false := by simp; omega
                        have p1 : ¬ (y1 : Int) < (l1 : Int) := by omega
                        have q1 : decide ((y1 : Int) < (l1 : Int)) = false := by simp; omega
                        have r1 : decide ((y1 : Nat) < l1) = false := by simp; omega
                        have p2 : ¬ (l2 : Int) < (y1 : Int) := by omega
                        have q2 : decide ((l2 : Int) < (y1 : Int)) = false := by simp; omega
                        have r2 : decide ((l2 : Nat) < y1) = false := by simp; omega
                        have p3 : ¬ (y2 : Int) < (128 : Int) := by omega
                        have q3 : decide ((y2 : Int) < (128 : Int)) = false := by simp; omega
                        have r3 : decide ((y2 : Nat) < 128) = false := by simp; omega
                        have p4 : ¬ (191 : Int) < (y2 : Int) := by omega
                        have q4 : decide ((191 : Int) < (y2 : Int)) = false := by simp; omega
                        have r4 : decide ((191 : Nat) < y2) = false := by simp; omega
                        have p5 : ¬ (y3 : Int) < (128 : Int) := by omega
                        have q5 : decide ((y3 : Int) < (128 : Int)) = false := by simp; omega
                        have r5 : decide ((y3 : Nat) < 128) = false := by simp; omega
                        have p6 : ¬ (191 : Int) < (y3 : Int) := by omega
                        have q6 : decide ((191 : Int) < (y3 : Int)) = false := by simp; omega
                        have r6 : decide ((191 : Nat) < y3) = false := by simp; omega
                        clear g0 g1 g2 g3 g4 g5 g6 hw HWD hval hsz
                        go_wp2_with fail
                        go_quiet (fail)
                        have B3 := below_keeps B2 ((Keeps.refl (fun _ => False) _).drewN nq) B2.size (fun _ h => h.elim)
                        go_wp2_with fail
                        go_roundw
                        case rel => exact ⟨_, rfl, HVN.out, by have := HSZ.out; omega, B3⟩
                        case measure => have := HSZ.out; simp only [strLen]; omega
        · exact absurd hm.2 (by omega)
        · skip
          have hx7b : bits .and .u8 (x : Int) 7 = 1 := by rw [hx7, hm.1]; rfl
          have hw : width u = 0 := by rw [HWD.out, if_neg (by omega), if_neg (by omega), if_neg (by omega)]
          have HR : Hid (vs = false) := Lib.hid (by rw [← HV.out, ← HVU.out]; exact valid_bad u hu0 hw)
          clear hx7 hm HWD hw
          go_wp2_with fail
          go_ret
          exact ⟨by rw [HR.out]; rfl, B2⟩
end Utf
end Go.Proofs.YtbgiegecfapmlaaGreatDoor
