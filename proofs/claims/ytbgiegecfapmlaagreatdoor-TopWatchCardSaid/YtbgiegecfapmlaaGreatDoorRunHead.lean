/- The runner: head; conditions: none. -/
import Derived.Test.YtbgiegecfapmlaaGreatDoorRunNeed
namespace Go.Proofs.YtbgiegecfapmlaaGreatDoor
open Go.RowKit
set_option linter.unusedVariables false
set_option linter.unusedSimpArgs false
namespace Rob
open Job (jc jv)
section
variable {base : Nat} {w w' : World} {d : Adr} {js : List J} {s : St} {now : Int}
theorem head_rng (n : Nat) : head js s n = -1 ∨ ∃ k : Nat, k < n ∧ head js s n = (k : Int) := by
  induction n with
  | zero => exact .inl rfl
  | succ n ih =>
    simp only [head]
    split
    · exact .inr ⟨n, by omega, rfl⟩
    · rcases ih with h | ⟨k, hk, h⟩
      · exact .inl h
      · exact .inr ⟨k, by omega, h⟩
/-- The jobs' cells as the walk reads them. -/
theorem At.job (h : At base w d js s now) {b off : Nat} (hA : d.Aj = some ⟨b, off, none⟩) {k : Nat} {x : J} (hx : js[k]? = some x) {j : Nat} {v : Value} (hv : (jc x)[j]? = some v) : w.cell? ⟨b, off + k * 8 + j, none⟩ = some v := by
  obtain ⟨b', off', hA', hlt, hc⟩ := h.JR.2.2 (by have := (List.getElem?_eq_some_iff.1 hx).1; omega)
  rw [hA] at hA'
  cases hA'
  exact hc k x hx j v hv
theorem open_q (h : At base w d js s now) {i : Nat} (hi : i < js.length) (k : Int) (m : Nat) : Calls Tryz.prog 33 #[.pointer (some ⟨d.p, 0, none⟩), .int .i64 (i : Int), .int .i64 k] (w.drewN m) fun e w' => e = .returned (.bool (opn s i k)) ∧ ∃ q, w' = w.drewN q :=
  (open_is (h.down (((Keeps.refl (fun _ => False) w).drewN m).below (fun _ _ h => h))) hi k).mono fun _ _ ⟨he, hw⟩ => ⟨he, m, hw⟩
theorem dl_at {k : Nat} {x : J} (hx : js[k]? = some x) : dlAt js k = x.dl := by unfold dlAt; rw [hx]; rfl
set_option maxRecDepth 100000 in
set_option maxHeartbeats 4000000 in
theorem head_is (h : At base w d js s now) :
    Calls Tryz.prog 68 #[.pointer (some ⟨d.p, 0, none⟩)] w fun e w' => e = .returned (.int .i64 (head js s js.length)) ∧ Below w.heap.size w w' := by
  have b0 := h.B.cellAt (i := 0) rfl
  have H := Lib.hid h
  have hn12 := h.n12
  clear h
  go_enter Tryz.func68, Tryz.ntmps68
  go_wp2_with fail
  go_loopw [3, 11] (fun v i wr => ∃ k : Nat, k ≤ js.length ∧ v = .int .i64 (head js s k) ∧ i = .int .i64 (k : Int) ∧ Below w.heap.size w wr) (fun _ i _ => js.length - (intOf i).toNat)
  case atStart => exact ⟨0, by omega, rfl, rfl, Below.refl _ _⟩
  case round =>
    clear b0
    obtain ⟨k, hk, rfl, rfl, B⟩ := hrel
    by_cases hlt : k < js.length
    · have hlti : (k : Int) < (js.length : Int) := by omega
      obtain ⟨b, off, x, hA, hx, hb, c0, c1, c2, c3, c4, c5, c6, c7⟩ := Job.cells8 (H.out.down B).JR hlt
      have X := Job.Box.of (Blk.new wr 36 (jc x))
      have B2 := B.alloc B.size (.cells (jc x).toArray 36)
      have h2 := H.out.down B2
      have bb0 := h2.B.cellAt (i := 0) rfl
      have hop := fun m => open_q h2 hlt 1 m
      have hhd : head js s (k + 1) = if opn s k 1 = true ∧ (head js s k < 0 ∨ dlAt js k < dlAt js (head js s k).toNat) then (k : Int) else head js s k := rfl
      have HJ := Lib.hid (fun (j : Nat) (y : J) (hy : js[j]? = some y) => h2.job hA hy (j := 2) rfl)
      have hrng := head_rng (js := js) (s := s) k
      rw [dl_at hx] at hhd
      have HHD := Lib.hid hhd
      have HRNG := Lib.hid hrng
      have HX := Lib.hid hx
      unfold jc at X B2 hop bb0 HJ
      obtain ⟨x0, x1, x2, x3, x4, x5, x6, x7⟩ := X
      rw [hA] at bb0 
      have hi0 : (0 : Int) ≤ (k : Int) := by omega
      have hi1 : (k : Int) + 1 ≤ 9223372036854775807 := by omega
      clear hhd hrng hx hb h2 B x0 x1 x3 x4 x5 x6 x7
      rw [hA]
      cases ho : opn s k 1 with
      | false =>
        rw [ho] at hop
        have HOP := Lib.hid hop
        have F : Hid (head js s (k + 1) = head js s k) := Lib.hid (by rw [HHD.out]; rw [if_neg (by rw [ho]; simp)])
        clear hop
        go_wp2_with fail
        go_quiet ((go_at_call 33; exact HOP.out _))
        have B3 := below_keeps B2 ((Keeps.refl (fun _ => False) _).drewN nq) B2.size (fun _ h => h.elim)
        go_wp2_with fail
        go_roundw
        case rel => exact ⟨k + 1, by omega, by rw [F.out], by simp, B3⟩
        case measure => simp [intOf]; omega
      | true =>
        rw [ho] at hop
        have HOP := Lib.hid hop
        clear hop
        rcases HRNG.out with hm | ⟨m, hm, hmm⟩
        · rw [hm]
          have q1 : ((-1 : Int) < 0) := by omega
          have F : Hid (head js s (k + 1) = (k : Int)) := Lib.hid (by rw [HHD.out]; rw [if_pos ⟨ho, .inl (by rw [hm]; omega)⟩])
          skip
          go_wp2_with fail
          go_quiet ((go_at_call 33; exact HOP.out _))
          have B3 := below_keeps B2 ((Keeps.refl (fun _ => False) _).drewN nq) B2.size (fun _ h => h.elim)
          go_wp2_with fail
          go_roundw
          case rel => exact ⟨k + 1, by omega, by rw [F.out], by simp, B3⟩
          case measure => simp [intOf]; omega
        · rw [hmm]
          obtain ⟨y, hy⟩ : ∃ y, js[m]? = some y := ⟨js[m]'(by omega), List.getElem?_eq_getElem (by omega)⟩
          have y2 := HJ.out m y hy
          have q1 : ¬ ((m : Int) < 0) := by omega
          have q2 : decide ((m : Int) < 0) = false := by simp
          have m0 : (0 : Int) ≤ (m : Int) := by omega
          have m1 : (m : Int) < (js.length : Int) := by omega
          by_cases hd : x.dl < y.dl
          · skip
            have r2 : decide (x.dl < y.dl) = true := by simpa using hd
            have F : Hid (head js s (k + 1) = (k : Int)) := Lib.hid (by rw [HHD.out]; rw [if_pos ⟨ho, .inr (by rw [hmm, Int.toNat_natCast, dl_at hy]; exact hd)⟩])
            clear hy
            go_wp2_with fail
            go_quiet ((go_at_call 33; exact HOP.out _))
            have B3 := below_keeps B2 ((Keeps.refl (fun _ => False) _).drewN nq) B2.size (fun _ h => h.elim)
            go_wp2_with fail
            go_roundw
            case rel => exact ⟨k + 1, by omega, by rw [F.out], by simp, B3⟩
            case measure => simp [intOf]; omega
          · skip
            have r2 : decide (x.dl < y.dl) = false := by simpa using hd
            have hn : ¬ (opn s k 1 = true ∧ (head js s k < 0 ∨ x.dl < dlAt js (head js s k).toNat)) := by
              rintro ⟨_, h⟩
              rw [hmm, Int.toNat_natCast, dl_at hy] at h
              omega
            have F : Hid (head js s (k + 1) = (m : Int)) := Lib.hid (by rw [HHD.out, if_neg hn, hmm])
            have hd2 : y.dl ≤ x.dl := by omega
            clear hn hmm hm ho
            clear hy
            go_wp2_with fail
            go_quiet ((go_at_call 33; exact HOP.out _))
            have B3 := below_keeps B2 ((Keeps.refl (fun _ => False) _).drewN nq) B2.size (fun _ h => h.elim)
            go_wp2_with fail
            go_roundw
            case rel => exact ⟨k + 1, by omega, by rw [F.out], by simp, B3⟩
            case measure => simp [intOf]; omega
    · have hlti : ¬ (k : Int) < (js.length : Int) := by omega
      have e : k = js.length := by omega
      go_wp2_with fail
      go_ret
      exact ⟨by first | rfl | (rw [e]; rfl), B⟩
end
end Rob
end Go.Proofs.YtbgiegecfapmlaaGreatDoor
