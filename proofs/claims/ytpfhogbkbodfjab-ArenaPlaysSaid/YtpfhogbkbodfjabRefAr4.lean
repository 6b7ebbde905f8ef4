/- The reference's Arena: All; conditions: at most 1000 places. -/
import Derived.Test.YtpfhogbkbodfjabRefAr2
import Derived.Test.YtpfhogbkbodfjabHeldU
import Derived.Test.YtpfhogbkbodfjabArSAll
namespace Go.Proofs.Ytpfhogbkbodfjab
open Go.RowKit
set_option linter.unusedVariables false
set_option linter.unusedSimpArgs false
namespace RefAr
open Ar
open ArS (handles handles_le handles_snoc)
def slots (l : List (Nat × Int)) : List Value := l.map fun h => Value.int .i64 (h.1 : Int)
def gs (l : List (Nat × Int)) : List Value := l.map fun h => Value.int .i64 h.2
set_option maxRecDepth 100000 in
set_option maxHeartbeats 10000000 in
theorem all_any (p : Nat) (s : Sh) (room : Nat) (ps : List Pl) (fr : List Nat) (w : World) (h : At w p s room ps fr) (hl : ps.length ≤ 1000) :
    Calls Try.prog 44 #[.pointer (some ⟨p, 0, none⟩)] w fun e w' => ∃ A' c' B' d', e = .returned (.tuple #[.slice A' (handles ps).length c', .slice B' (handles ps).length d']) ∧ Has w' 3 1 (.slice A' (handles ps).length c') (handles ps).length (slots (handles ps)) ∧ Has w' 2 1 (.slice B' (handles ps).length d') (handles ps).length (gs (handles ps)) ∧ Keeps (fun _ => False) w w' := by
  obtain ⟨iI, hI0, hI1, hI2, hI3⟩ := info_parts infoI
  obtain ⟨iL, hL0, hL1, hL2, hL3⟩ := info_parts infoL
  have c3 := h.Bl.cellAt (i := 3) rfl
  obtain ⟨n, hn⟩ : ∃ n, n = ps.length := ⟨_, rfl⟩
  rw [← hn] at c3 hl
  have HN := Lib.hid hn
  clear hn
  have K := Keeps.refl (fun _ => False) w
  go_enter Try.func44, Try.ntmps44
  go_wp2_with fail
  go_loopw [4, 5, 6] (fun a b i wr => ∃ j : Nat, j ≤ n ∧ i = .int .i64 j ∧ wr.ownsRow w.heap.size 3 1 a (handles (ps.take j)).length (slots (handles (ps.take j))) ∧ wr.ownsRow w.heap.size 2 1 b (handles (ps.take j)).length (gs (handles (ps.take j))) ∧ Keeps (fun _ => False) w wr) (fun _ _ i _ => n - (intOf i).toNat)
  case atStart => exact ⟨0, by omega, rfl, World.ownsRow_nil _ _ _ _, World.ownsRow_nil _ _ _ _, K⟩
  case round =>
    clear K c3
    obtain ⟨j, hj, rfl, XA, XG, HK⟩ := hrel
    have hcl : (handles (ps.take j)).length ≤ j := Nat.le_trans (handles_le _) (List.length_take_le _ _)
    have HA := h.stay HK
    have c1 := HA.Bl.cellAt (i := 1) rfl
    have c3 := HA.Bl.cellAt (i := 3) rfl
    rw [← HN.out] at c1 c3
    by_cases hlt : j < n
    · obtain ⟨x, hx⟩ : ∃ x, ps[j]? = some x := ⟨_, List.getElem?_eq_getElem (by have := HN.out; omega)⟩
      obtain ⟨ga, gg, gv, hA, hG, hV, d0, d1, d2⟩ := HA.place hx
      have htl : (ps.take j).length = j := by rw [List.length_take]; have := HN.out; omega
      have hos := handles_snoc (ps.take j) x
      rw [htl] at hos
      have HX := Lib.hid hx
      have HC := Lib.hid hos
      clear htl hos
      obtain ⟨zs, hzs⟩ : ∃ zs, zs = handles (ps.take j) := ⟨_, rfl⟩
      rw [← hzs] at XA XG hcl HC
      clear hzs
      obtain ⟨SA, sc, hva⟩ := own_shape XA
      obtain ⟨SB, sd, hvb⟩ := own_shape XG
      subst hva hvb
      have hj0 : (0 : Int) ≤ (j : Int) := by omega
      have hj1 : (j : Int) < (n : Int) := by omega
      rw [hA] at c1
      have HS : ∀ wq, Keeps (fun _ => False) w wq → (wq.cell? ⟨p, 2, none⟩ = some (.slice (some ⟨gg, 0, none⟩) n s.g) ∧ wq.cell? ⟨gg, j, none⟩ = some (.int .i64 x.g)) := fun wq k => by
        have HQ := h.stay k
        obtain ⟨_, gg2, _, _, hG2, _, _, q1, _⟩ := HQ.place hx
        have q2 := HQ.Bl.cellAt (i := 2) rfl
        rw [hG2] at hG
        injection hG with hG
        injection hG with hG
        subst hG
        rw [hG2, ← HN.out] at q2
        exact ⟨q2, q1⟩
      clear hx hA hG hV d1 d2 HA
      obtain ⟨xv, xg, xo⟩ := x
      dsimp only at *
      cases xo with
      | true =>
        rw [if_pos rfl] at HC
        go_wp2_with fail
        have k0 : Keeps (fun _ => False) wr wr.drew := Keeps.drew (Keeps.refl _ _)
        have XA00 := own_kept XA k0 (fun _ _ _ _ h => h)
        have XG00 := own_kept XG k0 (fun _ _ _ _ h => h)
        have KC00 : Keeps (fun _ => False) w wr.drew := HK.drew
        have HSS := HS _ KC00
        clear k0 XA XG HK d0 c1 c3
        refine wpU_begin (S := fun wq => wq.cell? ⟨p, 2, none⟩ = some (.slice (some ⟨gg, 0, none⟩) n s.g) ∧ wq.cell? ⟨gg, j, none⟩ = some (.int .i64 xg)) (U := 15) (by kernel_rfl) ?_
        generalize wr.drew = w1 at *
        have XA1 := XA00
        have XG1 := XG00
        have KC1 := KC00
        clear XA00 XG00 KC00
        refine wpU_take (i := 0) (oi := ⟨some 23, _, _, _, _, _⟩) (v := ?_) rfl (by kernel_rfl) (by kernel_rfl) (by kernel_rfl) (fun _ _ _ h => h) (by decide) (fun _ => HSS) (Or.inl ⟨by kernel_rfl, ?_⟩) ?_
        rotate_left
        · intro w hSw; go_simp; try with_reducible rfl
        rotate_left
        try simp only [Act.put, List.setIfInBounds_toArray, List.set_cons_zero, List.set_cons_succ]
        refine wpU_take (i := 1) (oi := ⟨some 24, _, _, _, _, _⟩) (v := ?_) rfl (by kernel_rfl) (by kernel_rfl) (by kernel_rfl) (fun _ _ _ h => h) (by decide) (fun _ => HSS) (Or.inl ⟨by kernel_rfl, ?_⟩) ?_
        rotate_left
        · intro w hSw; go_simp; try with_reducible rfl
        rotate_left
        try simp only [Act.put, List.setIfInBounds_toArray, List.set_cons_zero, List.set_cons_succ]
        refine wpU_take (i := 4) (oi := ⟨some 27, _, _, _, _, _⟩) (v := ?_) rfl (by kernel_rfl) (by kernel_rfl) (by kernel_rfl) (fun _ _ _ h => h) (by decide) (fun _ => HSS) (Or.inl ⟨by kernel_rfl, ?_⟩) ?_
        rotate_left
        · intro w hSw; go_simp; try with_reducible rfl
        rotate_left
        try simp only [Act.put, List.setIfInBounds_toArray, List.set_cons_zero, List.set_cons_succ]
        refine wpU_take (i := 5) (oi := ⟨some 28, _, _, _, _, _⟩) (v := ?_) rfl (by kernel_rfl) (by kernel_rfl) (by kernel_rfl) (fun _ _ _ h => h) (by decide) (fun _ => HSS) (Or.inl ⟨by kernel_rfl, ?_⟩) ?_
        rotate_left
        · intro w hSw; go_simp; try with_reducible rfl
        rotate_left
        try simp only [Act.put, List.setIfInBounds_toArray, List.set_cons_zero, List.set_cons_succ]
        refine wpU_take (i := 6) (oi := ⟨some 29, _, _, _, _, _⟩) (v := ?_) rfl (by kernel_rfl) (by kernel_rfl) (by kernel_rfl) (fun _ _ _ h => h) (by decide) (fun _ => HSS) (Or.inl ⟨by kernel_rfl, ?_⟩) ?_
        rotate_left
        · intro w hSw; go_simp; try with_reducible rfl
        rotate_left
        try simp only [Act.put, List.setIfInBounds_toArray, List.set_cons_zero, List.set_cons_succ]
        refine wpU_take (i := 7) (oi := ⟨some 30, _, _, _, _, _⟩) (v := ?_) rfl (by kernel_rfl) (by kernel_rfl) (by kernel_rfl) (fun _ _ _ h => h) (by decide) (fun _ => HSS) (Or.inl ⟨by kernel_rfl, ?_⟩) ?_
        rotate_left
        · intro w hSw; go_simp; try with_reducible rfl
        rotate_left
        try simp only [Act.put, List.setIfInBounds_toArray, List.set_cons_zero, List.set_cons_succ]
        refine wpU_take (i := 9) (oi := ⟨some 32, _, _, _, _, _⟩) (v := ?_) rfl (by kernel_rfl) (by kernel_rfl) (by kernel_rfl) (fun _ _ _ h => h) (by decide) (fun _ => HSS) (Or.inl ⟨by kernel_rfl, ?_⟩) ?_
        rotate_left
        · intro w hSw; go_simp; try with_reducible rfl
        rotate_left
        try simp only [Act.put, List.setIfInBounds_toArray, List.set_cons_zero, List.set_cons_succ]
        refine wpU_load (i := 8) (oi := ⟨some 31, _, _, _, _, _⟩) (v := ?_) rfl (by kernel_rfl) (by kernel_rfl) (by kernel_rfl) (fun _ _ _ h => h) (by decide) (by kernel_rfl) (by kernel_rfl) (Or.inl ⟨by kernel_rfl, ?_⟩) HSS ?_
        rotate_left
        · intro w hSw; (try dsimp only at hSw); obtain ⟨q1, q2⟩ := hSw; go_simp; try with_reducible rfl
        rotate_left
        try simp only [Act.put, List.setIfInBounds_toArray, List.set_cons_zero, List.set_cons_succ]
        refine wpU_take (i := 10) (oi := ⟨some 33, _, _, _, _, _⟩) (v := ?_) rfl (by kernel_rfl) (by kernel_rfl) (by kernel_rfl) (fun _ _ _ h => h) (by decide) (fun _ => HSS) (Or.inl ⟨by kernel_rfl, ?_⟩) ?_
        rotate_left
        · intro w hSw; go_simp; try with_reducible rfl
        rotate_left
        try simp only [Act.put, List.setIfInBounds_toArray, List.set_cons_zero, List.set_cons_succ]
        refine wpU_load (i := 11) (oi := ⟨some 34, _, _, _, _, _⟩) (v := ?_) rfl (by kernel_rfl) (by kernel_rfl) (by kernel_rfl) (fun _ _ _ h => h) (by decide) (by kernel_rfl) (by kernel_rfl) (Or.inl ⟨by kernel_rfl, ?_⟩) HSS ?_
        rotate_left
        · intro w hSw; (try dsimp only at hSw); obtain ⟨q1, q2⟩ := hSw; go_simp; try with_reducible rfl
        rotate_left
        try simp only [Act.put, List.setIfInBounds_toArray, List.set_cons_zero, List.set_cons_succ]
        refine wpU_ready (rs := [2, 12]) (by kernel_rfl) (by simp) ?_
        refine (AllReadyU.cons (o := ⟨some 25, _, _, _, _, _⟩) rfl (fun K hK => ?_) (AllReadyU.cons (o := ⟨some 35, _, _, _, _, _⟩) rfl (fun K hK => ?_) AllReadyU.nil))
        · skip
          go_simp
          have kA := (Keeps.refl (fun _ => False) w1).alloc (.cells #[.int .i64 (j : Int)] 3)
          have XA2 := own_kept XA1 kA (fun _ _ _ _ h => h)
          have XG2 := own_kept XG1 kA (fun _ _ _ _ h => h)
          have NA2 := Has.box w1 3 1 1 [.int .i64 (j : Int)] rfl (by unfold maxLen; omega)
          have KC2 := KC1.alloc (.cells #[.int .i64 (j : Int)] 3)
          dsimp only [List.toArray] at NA2
          generalize w1.alloc (.cells #[.int .i64 (j : Int)] 3) = w2 at *
          refine hK.out _ _ (fun _ => HS _ KC2) ?_
          clear hK K
          try simp only [Act.put, List.setIfInBounds_toArray, List.set_cons_zero, List.set_cons_succ]
          refine wpU_ready (rs := [3, 12]) (by kernel_rfl) (by simp) ?_
          refine (AllReadyU.cons (o := ⟨some 26, _, _, _, _, _⟩) rfl (fun K hK => ?_) (AllReadyU.cons (o := ⟨some 35, _, _, _, _, _⟩) rfl (fun K hK => ?_) AllReadyU.nil))
          · skip
            refine step_append_has rfl (.tmp 23) (.tmp 25) 58 rfl iI _ 8 Try.underlying58 hI0 hI1 hI2 hI3 rfl (by omega) (by simp [Act.eval, Act.put]) XA2 (some ⟨w1.heap.size, 0, none⟩) 1 1 [.int .i64 (j : Int)] (by simp [Act.eval, Act.put]) NA2 (by intro u hu; simp at hu; subst hu; rfl) (by unfold maxLen; omega) (by omega) KC2.size ?_
            intro vA w3 XA3 g3 at3
            have kk : Keeps (fun b => (Value.slice SA zs.length sc).ownBlock = some b) w2 w3 := keeps_grown (Keeps.refl _ _) g3 (fun g h => .inl h)
            have XG3 := own_kept XG2 kk (fun g _ _ hg hs => types_ne (Has.of_own XA2) (Has.of_own XG2) (by decide) hs hg)
            have KC3 : Keeps (fun _ => False) w w3 := keeps_grown KC2 g3 (fun g h => .inr (XA2.lt g h).1)
            clear g3 at3 kk
            refine hK.out _ _ (fun _ => HS _ KC3) ?_
            clear hK K
            try simp only [Act.put, List.setIfInBounds_toArray, List.set_cons_zero, List.set_cons_succ]
            refine wpU_ready (rs := [12]) (by kernel_rfl) (by simp) ?_
            refine (AllReadyU.cons (o := ⟨some 35, _, _, _, _, _⟩) rfl (fun K hK => ?_) AllReadyU.nil)
            · skip
              go_simp
              have kA := (Keeps.refl (fun _ => False) w3).alloc (.cells #[.int .i64 xg] 2)
              have XA4 := own_kept XA3 kA (fun _ _ _ _ h => h)
              have XG4 := own_kept XG3 kA (fun _ _ _ _ h => h)
              have NG4 := Has.box w3 2 1 1 [.int .i64 xg] rfl (by unfold maxLen; omega)
              have KC4 := KC3.alloc (.cells #[.int .i64 xg] 2)
              dsimp only [List.toArray] at NG4
              generalize w3.alloc (.cells #[.int .i64 xg] 2) = w4 at *
              refine hK.out _ _ (fun _ => HS _ KC4) ?_
              clear hK K
              try simp only [Act.put, List.setIfInBounds_toArray, List.set_cons_zero, List.set_cons_succ]
              refine wpU_ready (rs := [13]) (by kernel_rfl) (by simp) ?_
              refine (AllReadyU.cons (o := ⟨some 36, _, _, _, _, _⟩) rfl (fun K hK => ?_) AllReadyU.nil)
              · skip
                refine step_append_has rfl (.tmp 27) (.tmp 35) 56 rfl iL _ 8 Try.underlying56 hL0 hL1 hL2 hL3 rfl (by omega) (by simp [Act.eval, Act.put]) XG4 (some ⟨w3.heap.size, 0, none⟩) 1 1 [.int .i64 xg] (by simp [Act.eval, Act.put]) NG4 (by intro u hu; simp at hu; subst hu; rfl) (by unfold maxLen; omega) (by omega) KC4.size ?_
                intro vG w5 XG5 g5 at5
                have kk : Keeps (fun b => (Value.slice SB zs.length sd).ownBlock = some b) w4 w5 := keeps_grown (Keeps.refl _ _) g5 (fun g h => .inl h)
                have XA5 := own_kept XA4 kk (fun g _ _ hg hs => types_ne (Has.of_own XG4) (Has.of_own XA4) (by decide) hs hg)
                have KC5 : Keeps (fun _ => False) w w5 := keeps_grown KC4 g5 (fun g h => .inr (XG4.lt g h).1)
                clear g5 at5 kk
                refine hK.out _ _ (fun _ => HS _ KC5) ?_
                clear hK K
                try simp only [Act.put, List.setIfInBounds_toArray, List.set_cons_zero, List.set_cons_succ]
                refine wpU_take (i := 14) (oi := ⟨some 4, _, _, _, _, _⟩) (v := ?_) rfl (by kernel_rfl) (by kernel_rfl) (by kernel_rfl) (fun _ _ _ h => h) (by decide) (fun _ => HS _ KC5) (Or.inl ⟨by kernel_rfl, ?_⟩) ?_
                rotate_left
                · intro w hSw; go_simp; try with_reducible rfl
                rotate_left
                try simp only [Act.put, List.setIfInBounds_toArray, List.set_cons_zero, List.set_cons_succ]
                refine wpU_ready (rs := [15]) (by kernel_rfl) (by simp) ?_
                refine AllReadyU.cons (o := ⟨some 5, _, _, _, _, _⟩) rfl (fun K hK => ?_) AllReadyU.nil
                go_simp
                refine hK.out _ _ (fun h => absurd h (by decide)) ?_
                clear hK K
                try simp only [Act.put, List.setIfInBounds_toArray, List.set_cons_zero, List.set_cons_succ]
                refine wpU_done (by kernel_rfl) ?_ _
                go_wp2_with fail
                go_roundw
                case rel => exact ⟨j + 1, by omega, by go_num, by rw [take_next HX.out, HC.out]; simpa [slots] using XA5, by rw [take_next HX.out, HC.out]; simpa [gs] using XG5, KC5⟩
                case measure => simp [intOf]; omega
          · skip
            go_simp
            have kA := (Keeps.refl (fun _ => False) w2).alloc (.cells #[.int .i64 xg] 2)
            have XA3 := own_kept XA2 kA (fun _ _ _ _ h => h)
            have XG3 := own_kept XG2 kA (fun _ _ _ _ h => h)
            have NA3 := NA2.kept kA (fun _ _ _ _ h => h)
            have NG3 := Has.box w2 2 1 1 [.int .i64 xg] rfl (by unfold maxLen; omega)
            have KC3 := KC2.alloc (.cells #[.int .i64 xg] 2)
            dsimp only [List.toArray] at NG3
            generalize w2.alloc (.cells #[.int .i64 xg] 2) = w3 at *
            refine hK.out _ _ (fun _ => HS _ KC3) ?_
            clear hK K
            try simp only [Act.put, List.setIfInBounds_toArray, List.set_cons_zero, List.set_cons_succ]
            refine wpU_ready (rs := [3]) (by kernel_rfl) (by simp) ?_
            refine (AllReadyU.cons (o := ⟨some 26, _, _, _, _, _⟩) rfl (fun K hK => ?_) AllReadyU.nil)
            · skip
              refine step_append_has rfl (.tmp 23) (.tmp 25) 58 rfl iI _ 8 Try.underlying58 hI0 hI1 hI2 hI3 rfl (by omega) (by simp [Act.eval, Act.put]) XA3 (some ⟨w1.heap.size, 0, none⟩) 1 1 [.int .i64 (j : Int)] (by simp [Act.eval, Act.put]) NA3 (by intro u hu; simp at hu; subst hu; rfl) (by unfold maxLen; omega) (by omega) KC3.size ?_
              intro vA w4 XA4 g4 at4
              have kk : Keeps (fun b => (Value.slice SA zs.length sc).ownBlock = some b) w3 w4 := keeps_grown (Keeps.refl _ _) g4 (fun g h => .inl h)
              have XG4 := own_kept XG3 kk (fun g _ _ hg hs => types_ne (Has.of_own XA3) (Has.of_own XG3) (by decide) hs hg)
              have NG4 := NG3.kept kk (fun g _ _ hg hs => types_ne (Has.of_own XA3) NG3 (by decide) hs hg)
              have KC4 : Keeps (fun _ => False) w w4 := keeps_grown KC3 g4 (fun g h => .inr (XA3.lt g h).1)
              clear g4 at4 kk
              refine hK.out _ _ (fun _ => HS _ KC4) ?_
              clear hK K
              try simp only [Act.put, List.setIfInBounds_toArray, List.set_cons_zero, List.set_cons_succ]
              refine wpU_ready (rs := [13]) (by kernel_rfl) (by simp) ?_
              refine (AllReadyU.cons (o := ⟨some 36, _, _, _, _, _⟩) rfl (fun K hK => ?_) AllReadyU.nil)
              · skip
                refine step_append_has rfl (.tmp 27) (.tmp 35) 56 rfl iL _ 8 Try.underlying56 hL0 hL1 hL2 hL3 rfl (by omega) (by simp [Act.eval, Act.put]) XG4 (some ⟨w2.heap.size, 0, none⟩) 1 1 [.int .i64 xg] (by simp [Act.eval, Act.put]) NG4 (by intro u hu; simp at hu; subst hu; rfl) (by unfold maxLen; omega) (by omega) KC4.size ?_
                intro vG w5 XG5 g5 at5
                have kk : Keeps (fun b => (Value.slice SB zs.length sd).ownBlock = some b) w4 w5 := keeps_grown (Keeps.refl _ _) g5 (fun g h => .inl h)
                have XA5 := own_kept XA4 kk (fun g _ _ hg hs => types_ne (Has.of_own XG4) (Has.of_own XA4) (by decide) hs hg)
                have KC5 : Keeps (fun _ => False) w w5 := keeps_grown KC4 g5 (fun g h => .inr (XG4.lt g h).1)
                clear g5 at5 kk
                refine hK.out _ _ (fun _ => HS _ KC5) ?_
                clear hK K
                try simp only [Act.put, List.setIfInBounds_toArray, List.set_cons_zero, List.set_cons_succ]
                refine wpU_take (i := 14) (oi := ⟨some 4, _, _, _, _, _⟩) (v := ?_) rfl (by kernel_rfl) (by kernel_rfl) (by kernel_rfl) (fun _ _ _ h => h) (by decide) (fun _ => HS _ KC5) (Or.inl ⟨by kernel_rfl, ?_⟩) ?_
                rotate_left
                · intro w hSw; go_simp; try with_reducible rfl
                rotate_left
                try simp only [Act.put, List.setIfInBounds_toArray, List.set_cons_zero, List.set_cons_succ]
                refine wpU_ready (rs := [15]) (by kernel_rfl) (by simp) ?_
                refine AllReadyU.cons (o := ⟨some 5, _, _, _, _, _⟩) rfl (fun K hK => ?_) AllReadyU.nil
                go_simp
                refine hK.out _ _ (fun h => absurd h (by decide)) ?_
                clear hK K
                try simp only [Act.put, List.setIfInBounds_toArray, List.set_cons_zero, List.set_cons_succ]
                refine wpU_done (by kernel_rfl) ?_ _
                go_wp2_with fail
                go_roundw
                case rel => exact ⟨j + 1, by omega, by go_num, by rw [take_next HX.out, HC.out]; simpa [slots] using XA5, by rw [take_next HX.out, HC.out]; simpa [gs] using XG5, KC5⟩
                case measure => simp [intOf]; omega
        · skip
          go_simp
          have kA := (Keeps.refl (fun _ => False) w1).alloc (.cells #[.int .i64 xg] 2)
          have XA2 := own_kept XA1 kA (fun _ _ _ _ h => h)
          have XG2 := own_kept XG1 kA (fun _ _ _ _ h => h)
          have NG2 := Has.box w1 2 1 1 [.int .i64 xg] rfl (by unfold maxLen; omega)
          have KC2 := KC1.alloc (.cells #[.int .i64 xg] 2)
          dsimp only [List.toArray] at NG2
          generalize w1.alloc (.cells #[.int .i64 xg] 2) = w2 at *
          refine hK.out _ _ (fun _ => HS _ KC2) ?_
          clear hK K
          try simp only [Act.put, List.setIfInBounds_toArray, List.set_cons_zero, List.set_cons_succ]
          refine wpU_ready (rs := [2]) (by kernel_rfl) (by simp) ?_
          refine (AllReadyU.cons (o := ⟨some 25, _, _, _, _, _⟩) rfl (fun K hK => ?_) AllReadyU.nil)
          · skip
            go_simp
            have kA := (Keeps.refl (fun _ => False) w2).alloc (.cells #[.int .i64 (j : Int)] 3)
            have XA3 := own_kept XA2 kA (fun _ _ _ _ h => h)
            have XG3 := own_kept XG2 kA (fun _ _ _ _ h => h)
            have NG3 := NG2.kept kA (fun _ _ _ _ h => h)
            have NA3 := Has.box w2 3 1 1 [.int .i64 (j : Int)] rfl (by unfold maxLen; omega)
            have KC3 := KC2.alloc (.cells #[.int .i64 (j : Int)] 3)
            dsimp only [List.toArray] at NA3
            generalize w2.alloc (.cells #[.int .i64 (j : Int)] 3) = w3 at *
            refine hK.out _ _ (fun _ => HS _ KC3) ?_
            clear hK K
            try simp only [Act.put, List.setIfInBounds_toArray, List.set_cons_zero, List.set_cons_succ]
            refine wpU_ready (rs := [3]) (by kernel_rfl) (by simp) ?_
            refine (AllReadyU.cons (o := ⟨some 26, _, _, _, _, _⟩) rfl (fun K hK => ?_) AllReadyU.nil)
            · skip
              refine step_append_has rfl (.tmp 23) (.tmp 25) 58 rfl iI _ 8 Try.underlying58 hI0 hI1 hI2 hI3 rfl (by omega) (by simp [Act.eval, Act.put]) XA3 (some ⟨w2.heap.size, 0, none⟩) 1 1 [.int .i64 (j : Int)] (by simp [Act.eval, Act.put]) NA3 (by intro u hu; simp at hu; subst hu; rfl) (by unfold maxLen; omega) (by omega) KC3.size ?_
              intro vA w4 XA4 g4 at4
              have kk : Keeps (fun b => (Value.slice SA zs.length sc).ownBlock = some b) w3 w4 := keeps_grown (Keeps.refl _ _) g4 (fun g h => .inl h)
              have XG4 := own_kept XG3 kk (fun g _ _ hg hs => types_ne (Has.of_own XA3) (Has.of_own XG3) (by decide) hs hg)
              have NG4 := NG3.kept kk (fun g _ _ hg hs => types_ne (Has.of_own XA3) NG3 (by decide) hs hg)
              have KC4 : Keeps (fun _ => False) w w4 := keeps_grown KC3 g4 (fun g h => .inr (XA3.lt g h).1)
              clear g4 at4 kk
              refine hK.out _ _ (fun _ => HS _ KC4) ?_
              clear hK K
              try simp only [Act.put, List.setIfInBounds_toArray, List.set_cons_zero, List.set_cons_succ]
              refine wpU_ready (rs := [13]) (by kernel_rfl) (by simp) ?_
              refine (AllReadyU.cons (o := ⟨some 36, _, _, _, _, _⟩) rfl (fun K hK => ?_) AllReadyU.nil)
              · skip
                refine step_append_has rfl (.tmp 27) (.tmp 35) 56 rfl iL _ 8 Try.underlying56 hL0 hL1 hL2 hL3 rfl (by omega) (by simp [Act.eval, Act.put]) XG4 (some ⟨w1.heap.size, 0, none⟩) 1 1 [.int .i64 xg] (by simp [Act.eval, Act.put]) NG4 (by intro u hu; simp at hu; subst hu; rfl) (by unfold maxLen; omega) (by omega) KC4.size ?_
                intro vG w5 XG5 g5 at5
                have kk : Keeps (fun b => (Value.slice SB zs.length sd).ownBlock = some b) w4 w5 := keeps_grown (Keeps.refl _ _) g5 (fun g h => .inl h)
                have XA5 := own_kept XA4 kk (fun g _ _ hg hs => types_ne (Has.of_own XG4) (Has.of_own XA4) (by decide) hs hg)
                have KC5 : Keeps (fun _ => False) w w5 := keeps_grown KC4 g5 (fun g h => .inr (XG4.lt g h).1)
                clear g5 at5 kk
                refine hK.out _ _ (fun _ => HS _ KC5) ?_
                clear hK K
                try simp only [Act.put, List.setIfInBounds_toArray, List.set_cons_zero, List.set_cons_succ]
                refine wpU_take (i := 14) (oi := ⟨some 4, _, _, _, _, _⟩) (v := ?_) rfl (by kernel_rfl) (by kernel_rfl) (by kernel_rfl) (fun _ _ _ h => h) (by decide) (fun _ => HS _ KC5) (Or.inl ⟨by kernel_rfl, ?_⟩) ?_
                rotate_left
                · intro w hSw; go_simp; try with_reducible rfl
                rotate_left
                try simp only [Act.put, List.setIfInBounds_toArray, List.set_cons_zero, List.set_cons_succ]
                refine wpU_ready (rs := [15]) (by kernel_rfl) (by simp) ?_
                refine AllReadyU.cons (o := ⟨some 5, _, _, _, _, _⟩) rfl (fun K hK => ?_) AllReadyU.nil
                go_simp
                refine hK.out _ _ (fun h => absurd h (by decide)) ?_
                clear hK K
                try simp only [Act.put, List.setIfInBounds_toArray, List.set_cons_zero, List.set_cons_succ]
                refine wpU_done (by kernel_rfl) ?_ _
                go_wp2_with fail
                go_roundw
                case rel => exact ⟨j + 1, by omega, by go_num, by rw [take_next HX.out, HC.out]; simpa [slots] using XA5, by rw [take_next HX.out, HC.out]; simpa [gs] using XG5, KC5⟩
                case measure => simp [intOf]; omega
      | false =>
        rw [if_neg (by decide)] at HC
        go_wp2_with fail
        go_roundw
        case rel => exact ⟨j + 1, by omega, by go_num, by rw [take_next HX.out, HC.out]; simpa using XA, by rw [take_next HX.out, HC.out]; simpa using XG, HK⟩
        case measure => simp [intOf]; omega
    · rw [List.take_of_length_le (by have := HN.out; omega)] at XA XG
      obtain ⟨A', c', hv⟩ := own_shape XA
      obtain ⟨B', d', hv2⟩ := own_shape XG
      subst hv hv2
      have R1 := Has.of_own XA
      have R2 := Has.of_own XG
      go_wp2_with fail
      go_ret2
      exact ⟨A', c', B', d', rfl, R1, R2, HK⟩
end RefAr
end Go.Proofs.Ytpfhogbkbodfjab
