/- The runner: least; conditions: none. -/
import Derived.Test.YtbgiegecfapmlaaGreatDoorRunHead
namespace Go.Proofs.YtbgiegecfapmlaaGreatDoor
open Go.RowKit
set_option linter.unusedVariables false
set_option linter.unusedSimpArgs false
namespace Rob
open Job (jc jv)
section
variable {base : Nat} {w w' : World} {d : Adr} {js : List J} {s : St} {now : Int}
theorem least_rng (n : Nat) : least js s n = -1 ∨ ∃ k : Nat, k < n ∧ least js s n = (k : Int) := by
  induction n with
  | zero => exact .inl rfl
  | succ n ih =>
    simp only [least]
    split
    · exact .inr ⟨n, by omega, rfl⟩
    · rcases ih with h | ⟨k, hk, h⟩
      · exact .inl h
      · exact .inr ⟨k, by omega, h⟩
set_option maxRecDepth 100000 in
set_option maxHeartbeats 4000000 in
theorem least_is (h : At base w d js s now) :
    Calls Tryz.prog 67 #[.pointer (some ⟨d.p, 0, none⟩)] w fun e w' => e = .returned (.int .i64 (least js s js.length)) ∧ Below w.heap.size w w' := by
  have b0 := h.B.cellAt (i := 0) rfl
  have H := Lib.hid h
  have hn12 := h.n12
  clear h
  go_enter Tryz.func67, Tryz.ntmps67
  go_wp2_with fail
  go_loopw [3, 11] (fun v i wr => ∃ k : Nat, k ≤ js.length ∧ v = .int .i64 (least js s k) ∧ i = .int .i64 (k : Int) ∧ Below w.heap.size w wr) (fun _ i _ => js.length - (intOf i).toNat)
  case atStart => exact ⟨0, by omega, rfl, rfl, Below.refl _ _⟩
  case round =>
    clear b0
    obtain ⟨k, hk, rfl, rfl, B⟩ := hrel
    by_cases hlt : k < js.length
    · have hlti : (k : Int) < (js.length : Int) := by omega
      obtain ⟨b, off, x, hA, hx, hb, c0, c1, c2, c3, c4, c5, c6, c7⟩ := Job.cells8 (H.out.down B).JR hlt
      have X := Job.Box.of (Blk.new wr 36 (jc x))
      have B2 := B.alloc B.size (.cells (jc x).toArray 36)
      have h2 := H.out.down B2
      have bb0 := h2.B.cellAt (i := 0) rfl
      have hop := fun m => open_q h2 hlt 1 m
      have hhd : least js s (k + 1) = if opn s k 1 = true ∧ hardAt js k = false ∧ ranAt s k < budAt js k ∧ (least js s k < 0 ∨ valAt js k ≤ valAt js (least js s k).toNat) then (k : Int) else least js s k := rfl
      have hh : hardAt js k = x.hard := by unfold hardAt; rw [hx]; rfl
      have hbd : budAt js k = x.bud := by unfold budAt; rw [hx]; rfl
      have hvl : valAt js k = x.val := by unfold valAt; rw [hx]; rfl
      have b2 := h2.B.cellAt (i := 2) rfl
      have r0 := h2.R.cellAt (ran_get h2 hlt)
      have HJ := Lib.hid (fun (j : Nat) (y : J) (hy : js[j]? = some y) => h2.job hA hy (j := 5) rfl)
      have hrng := least_rng (js := js) (s := s) k
      rw [hh, hbd, hvl] at hhd
      generalize hran : ranAt s k = r at *
      have HHD := Lib.hid hhd
      have HRNG := Lib.hid hrng
      have HX := Lib.hid hx
      unfold jc at X B2 hop bb0 HJ b2 r0
      obtain ⟨x0, x1, x2, x3, x4, x5, x6, x7⟩ := X
      rw [hA] at bb0 
      have hi0 : (0 : Int) ≤ (k : Int) := by omega
      have hi1 : (k : Int) + 1 ≤ 9223372036854775807 := by omega
      clear hhd hrng hx hb h2 B x0 x1 x2 x4 x6 hh hbd hvl hran
      rw [hA]
      generalize x.hard = hb at *
      cases ho : opn s k 1 with
      | false =>
        rw [ho] at hop
        have HOP := Lib.hid hop
        clear hop
        have F : Hid (least js s (k + 1) = least js s k) := Lib.hid (by
          rw [HHD.out]
          rw [if_neg (by rw [ho]; simp)])
        clear ho
        go_wp2_with fail
        go_quiet ((go_at_call 33; exact HOP.out _))
        have B3 := below_keeps B2 ((Keeps.refl (fun _ => False) _).drewN nq) B2.size (fun _ h => h.elim)
        go_wp2_with fail
        go_roundw
        case rel => exact ⟨k + 1, by omega, by rw [F.out], by simp, B3⟩
        case measure => simp [intOf]; omega
      | true =>
        rw [ho] at hop
        have HOP := Lib.hid hop
        clear hop
        cases hb with
        | true =>
          have F : Hid (least js s (k + 1) = least js s k) := Lib.hid (by
            rw [HHD.out]
            rw [if_neg (by simp)])
          clear ho
          go_wp2_with fail
          go_quiet ((go_at_call 33; exact HOP.out _))
          have B3 := below_keeps B2 ((Keeps.refl (fun _ => False) _).drewN nq) B2.size (fun _ h => h.elim)
          go_wp2_with fail
          go_roundw
          case rel => exact ⟨k + 1, by omega, by rw [F.out], by simp, B3⟩
          case measure => simp [intOf]; omega
        | false =>
          by_cases hrb : r < x.bud
          · have g1 : decide (x.bud ≤ r) = false := by simp; omega
            have g2 : ¬ x.bud ≤ r := by omega
            rcases HRNG.out with hm | ⟨m, hm, hmm⟩
            · rw [hm]
              have q1 : ((-1 : Int) < 0) := by omega
              have F : Hid (least js s (k + 1) = (k : Int)) := Lib.hid (by
                rw [HHD.out]
                rw [if_pos ⟨ho, rfl, hrb, .inl (by rw [hm]; omega)⟩])
              clear ho
              go_wp2_with fail
              go_quiet ((go_at_call 33; exact HOP.out _))
              have B25 := below_keeps B2 ((Keeps.refl (fun _ => False) _).drewN nq) B2.size (fun _ h => h.elim)
              go_wp2_with fail
              go_quiet (fail)
              have B3 := below_keeps B25 ((Keeps.refl (fun _ => False) _).drewN nq) B25.size (fun _ h => h.elim)
              rw [World.drewN_drewN] at B3
              go_wp2_with fail
              go_roundw
              case rel => exact ⟨k + 1, by omega, by rw [F.out], by simp, B3⟩
              case measure => simp [intOf]; omega
            · rw [hmm]
              obtain ⟨y, hy⟩ : ∃ y, js[m]? = some y := ⟨js[m]'(by omega), List.getElem?_eq_getElem (by omega)⟩
              have y5 := HJ.out m y hy
              have hvy : valAt js m = y.val := by unfold valAt; rw [hy]; rfl
              have HVY := Lib.hid hvy
              have q1 : ¬ ((m : Int) < 0) := by omega
              have q2 : decide ((m : Int) < 0) = false := by simp
              have m0 : (0 : Int) ≤ (m : Int) := by omega
              have m1 : (m : Int) < (js.length : Int) := by omega
              clear hvy hy
              by_cases hd : x.val ≤ y.val
              · have v2 : decide (x.val ≤ y.val) = true := by simpa using hd
                have F : Hid (least js s (k + 1) = (k : Int)) := Lib.hid (by
                  rw [HHD.out]
                  rw [if_pos ⟨ho, rfl, hrb, .inr (by rw [hmm, Int.toNat_natCast, HVY.out]; exact hd)⟩])
                clear ho
                go_wp2_with fail
                go_quiet ((go_at_call 33; exact HOP.out _))
                have B25 := below_keeps B2 ((Keeps.refl (fun _ => False) _).drewN nq) B2.size (fun _ h => h.elim)
                go_wp2_with fail
                go_quiet (fail)
                have B3 := below_keeps B25 ((Keeps.refl (fun _ => False) _).drewN nq) B25.size (fun _ h => h.elim)
                rw [World.drewN_drewN] at B3
                go_wp2_with fail
                go_roundw
                case rel => exact ⟨k + 1, by omega, by rw [F.out], by simp, B3⟩
                case measure => simp [intOf]; omega
              · have v2 : decide (x.val ≤ y.val) = false := by simpa using hd
                have hn : ¬ (opn s k 1 = true ∧ false = false ∧ r < x.bud ∧ (least js s k < 0 ∨ x.val ≤ valAt js (least js s k).toNat)) := by
                  rintro ⟨_, _, _, h⟩
                  rw [hmm, Int.toNat_natCast, HVY.out] at h
                  omega
                have F : Hid (least js s (k + 1) = (m : Int)) := Lib.hid (by
                  rw [HHD.out]
                  rw [if_neg hn, hmm])
                clear ho hn hmm hm
                go_wp2_with fail
                go_quiet ((go_at_call 33; exact HOP.out _))
                have B25 := below_keeps B2 ((Keeps.refl (fun _ => False) _).drewN nq) B2.size (fun _ h => h.elim)
                go_wp2_with fail
                go_quiet (fail)
                have B3 := below_keeps B25 ((Keeps.refl (fun _ => False) _).drewN nq) B25.size (fun _ h => h.elim)
                rw [World.drewN_drewN] at B3
                go_wp2_with fail
                go_roundw
                case rel => exact ⟨k + 1, by omega, by rw [F.out], by simp, B3⟩
                case measure => simp [intOf]; omega
          · have g1 : decide (x.bud ≤ r) = true := by simp; omega
            have g2 : x.bud ≤ r := by omega
            have F : Hid (least js s (k + 1) = least js s k) := Lib.hid (by
              rw [HHD.out]
              rw [if_neg (by rintro ⟨_, _, h, _⟩; omega)])
            clear ho
            go_wp2_with fail
            go_quiet ((go_at_call 33; exact HOP.out _))
            have B3 := below_keeps B2 ((Keeps.refl (fun _ => False) _).drewN nq) B2.size (fun _ h => h.elim)
            go_wp2_with fail
            go_roundw
            case rel => exact ⟨k + 1, by omega, by rw [F.out], by simp, B3⟩
            case measure => simp [intOf]; omega
    · have hlti : ¬ (k : Int) < (js.length : Int) := by omega
      have e : k = js.length := by omega
      go_wp2_with fail
      go_ret
      exact ⟨by first | rfl | (rw [e]; rfl), B⟩
end
end Rob
end Go.Proofs.YtbgiegecfapmlaaGreatDoor
