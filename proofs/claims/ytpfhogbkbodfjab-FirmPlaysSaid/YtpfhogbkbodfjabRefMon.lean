/- The reference's Monitor: how many are met of the k that end at a place; Add; conditions: 1 ≤ k, at most 400 were told. -/
import Derived.Test.YtpfhogbkbodfjabFirmRead
namespace Go.Proofs.Ytpfhogbkbodfjab
open Go.RowKit
set_option linter.unusedVariables false
set_option linter.unusedSimpArgs false
namespace RefMon
open Win
theorem infoB : (Try.prog.info? 4).map (fun i => (i.zero, i.size, i.bytes)) = some (some (.bool false), 1, 1) := by kernel_rfl
/-- The reference's Monitor at block q; its row the slice A. -/
structure At (w : World) (q : Nat) (A : Option Addr) (c m k : Nat) (xs : List Bool) : Prop where
  Bl : Blk w q 110 [.int .i64 (m : Int), .int .i64 (k : Int), .slice A xs.length c]
  L : Has w 4 1 (.slice A xs.length c) xs.length (xs.map Value.bool)
def Foot (q : Nat) (A : Option Addr) (b : Nat) : Prop := b = q ∨ (Value.slice A 0 0).ownBlock = some b
theorem own_same (A : Option Addr) (n c n' c' : Nat) : (Value.slice A n c).ownBlock = (Value.slice A n' c').ownBlock := by cases A <;> rfl
theorem has_lt {w : World} {e : TypeId} {sz n : Nat} {v : Value} {cs : List Value} (h : Has w e sz v n cs) {b : Nat} (hb : v.ownBlock = some b) : b < w.heap.size := by
  rcases h.2 with ⟨rfl, _⟩ | ⟨g, off, cap, cur, rfl, _, _, hg, _⟩
  · cases hb
  · cases hb
    exact (Array.getElem?_eq_some_iff.1 hg).1
section
variable {w w' : World} {q c m k : Nat} {A : Option Addr} {xs : List Bool} {S : Nat → Prop}
theorem At.kept (h : At w q A c m k xs) (kp : Keeps S w w') (hS : ∀ b, Foot q A b → ¬ S b) : At w' q A c m k xs :=
  ⟨h.Bl.kept kp (hS q (.inl rfl)), h.L.kept kp (fun g _ _ hg => hS g (.inr ((own_same A _ _ _ _).trans hg)))⟩
theorem At.stay (h : At w q A c m k xs) (kp : Keeps (fun _ => False) w w') : At w' q A c m k xs := h.kept kp fun _ _ h => h
theorem At.lt (h : At w q A c m k xs) : ∀ b, Foot q A b → b < w.heap.size := by
  rintro b (rfl | hb)
  · exact h.Bl.lt
  · exact has_lt h.L ((own_same A _ _ _ _).trans hb)
end
theorem cell_of {w : World} {A : Option Addr} {n c : Nat} {xs : List Bool} (h : Has w 4 1 (.slice A n c) n (xs.map Value.bool)) {k : Nat} (hk : k < n) :
    ∃ g off y, A = some ⟨g, off, none⟩ ∧ xs[k]? = some y ∧ w.cell? ⟨g, off + k, none⟩ = some (.bool y) := by
  obtain ⟨g, off, hA, hc⟩ := h.at_ (by omega)
  have hl : xs.length = n := by have := h.1; simpa using this
  have hx : xs[k]? = some (xs[k]'(by omega)) := List.getElem?_eq_getElem (by omega)
  exact ⟨g, off, _, hA, hx, hc k _ (by rw [List.getElem?_map, hx]; rfl)⟩
/-- A window grows by one. -/
theorem win_next {xs : List Bool} {s j : Nat} {y : Bool} (h : xs[j]? = some y) (hs : s ≤ j) : cnt ((xs.take (j + 1)).drop s) = cnt ((xs.take j).drop s) + y.toNat := by
  have hj := (List.getElem?_eq_some_iff.1 h).1
  rw [take_next h, List.drop_append_of_le_length (by rw [List.length_take]; omega), cnt_snoc]
set_option maxHeartbeats 1000000 in
theorem met_any (q : Nat) (A : Option Addr) (c m k : Nat) (xs : List Bool) (e : Nat) (w : World) (h : At w q A c m k xs) (he : e < xs.length) (h1 : 1 ≤ k) (h2 : k ≤ e + 1) (hl : xs.length ≤ 400) :
    Calls Try.prog 85 #[.pointer (some ⟨q, 0, none⟩), .int .i64 (e : Int)] w fun r w' => r = .returned (.int .i64 ((W k (xs.take (e + 1)) : Nat) : Int)) ∧ w = w' := by
  obtain ⟨s, hs⟩ : ∃ s, s = e + 1 - k := ⟨_, rfl⟩
  have c1 := h.Bl.cellAt (i := 1) rfl
  have c2 := h.Bl.cellAt (i := 2) rfl
  have hh := h.L
  have HW : Hid (W k (xs.take (e + 1)) = cnt ((xs.take (e + 1)).drop s)) := Lib.hid (by rw [hs]; exact W_take k xs (e + 1) (by omega))
  clear h
  obtain ⟨n, hn⟩ : ∃ n, n = xs.length := ⟨_, rfl⟩
  rw [← hn] at c2 hh hl he
  have HN := Lib.hid hn
  have hk0 : (0 : Int) ≤ (k : Int) := by omega
  have hk1 : (k : Int) ≤ (e : Int) + 1 := by omega
  have he0 : (0 : Int) ≤ (e : Int) := by omega
  have he1 : (e : Int) ≤ 400 := by omega
  have hse : (e : Int) - (k : Int) + 1 = (s : Int) := by omega
  have HSE := Lib.hid hse
  have hss : s ≤ e := by omega
  clear hn hs hse
  go_enter Try.func85, Try.ntmps85
  go_wp2
  go_loop [5, 6] (fun t i => ∃ j : Nat, s ≤ j ∧ j ≤ e + 1 ∧ i = .int .i64 j ∧ t = .int .i64 ((cnt ((xs.take j).drop s) : Nat) : Int)) (fun _ i => e + 1 - (intOf i).toNat)
  case atStart => exact ⟨s, Nat.le_refl _, by omega, by rw [HSE.out], by rw [show (xs.take s).drop s = [] from List.drop_eq_nil_of_le (by rw [List.length_take]; omega)]; rfl⟩
  case round =>
    obtain ⟨j, hj0, hj, rfl, rfl⟩ := hrel
    have hcl : cnt ((xs.take j).drop s) ≤ 400 := by
      have := cnt_le ((xs.take j).drop s)
      rw [List.length_drop, List.length_take] at this
      omega
    by_cases hlt : j < e + 1
    · obtain ⟨g, off, y, rfl, hy, hc⟩ := cell_of hh (k := j) (by omega)
      have HS := Lib.hid (win_next hy hj0)
      have hjn : (j : Int) < (n : Int) := by omega
      have hj1 : (0 : Int) ≤ (j : Int) := by omega
      have hje : (j : Int) ≤ (e : Int) := by omega
      clear hy
      go_wp2
      all_goals
        go_round
        case rel => exact ⟨j + 1, by omega, by omega, by go_num, by rw [HS.out, show y = _ from ‹_›]; go_num⟩
        case measure => simp [intOf]; omega
    · obtain rfl : j = e + 1 := by omega
      have hje : ¬ ((e : Int) + 1 ≤ (e : Int)) := by omega
      go_wp2
      go_ret
      exact ⟨by rw [HW.out]; rfl, rfl⟩

/-- A longer row, in a block of its own. -/
def Added (w : World) (q m k : Nat) (xs : List Bool) (w' : World) : Prop := ∃ A' c', At w' q A' c' m k xs ∧ ∀ b, (Value.slice A' 0 0).ownBlock = some b → w.heap.size ≤ b
/-- Behind the two appends and the store of the row. -/
theorem At.put {w : World} {q c m k B : Nat} {A : Option Addr} {xs : List Bool} {y : Bool} {v0 : Value} (hb : Blk w q 110 [.int .i64 (m : Int), .int .i64 (k : Int), v0])
    (own : w.ownsRow B 4 1 (.slice A (0 + xs.length + 1) c) (0 + xs.length + 1) ([] ++ xs.map Value.bool ++ [.bool y])) :
    At (w.setCell ⟨q, 2, none⟩ (.slice A (xs.length + 1) c)) q A c m k (xs ++ [y]) := by
  have hh := Has.of_own own
  simp only [Nat.zero_add, List.nil_append] at hh
  have hl : (xs ++ [y]).length = xs.length + 1 := by simp
  refine ⟨by rw [hl]; exact hb.set_ 2 _, ?_⟩
  rw [hl, List.map_append]
  exact hh.kept ((keep1 q w).setCell ⟨q, 2, none⟩ (.inl rfl) (.slice A (xs.length + 1) c)) (fun g cur hg _ => own_ne hb (by decide) g cur hg)
set_option maxRecDepth 100000 in
set_option maxHeartbeats 2000000 in
theorem add_short (q : Nat) (A : Option Addr) (c m k : Nat) (xs : List Bool) (y : Bool) (w : World) (h : At w q A c m k xs) (hl : xs.length ≤ 399) (hs : xs.length + 1 < k) (h2 : k ≤ 400) :
    Calls Try.prog 69 #[.pointer (some ⟨q, 0, none⟩), .bool y] w fun r w' => r = .returned (.bool true) ∧ Added w q m k (xs ++ [y]) w' ∧ Keeps (· = q) w w' := by
  obtain ⟨i0, hi0, hz0, hz1, hz2⟩ := info_parts infoB
  have hlt := h.lt
  have HLT := Lib.hid hlt
  have hb := h.Bl
  have hh := h.L
  have hql := h.Bl.lt
  clear hlt h
  have c2 := hb.cellAt (i := 2) rfl
  have f := hb.frozen
  have hlen : (xs.map Value.bool).length = xs.length := List.length_map ..
  have HLEN := Lib.hid hlen
  clear hlen
  go_enter Try.func69, Try.ntmps69
  go_wp2_with (first
    | (at_builtin; (refine wpList_append_has rfl (.tmp 6) (.tmp 10) 32 rfl i0 _ 1 Try.underlying32 hi0 hz0 hz1 hz2 rfl (by omega) rfl (own_empty w w.heap.size 4 1 (Nat.le_refl _)) A xs.length c (xs.map Value.bool) rfl (hh.kept ((Keeps.refl (fun _ => False) _).alloc _) (fun _ _ _ _ h => h)) (bools_one _) (by unfold maxLen; omega) (by omega) (by simp) ?_; intro v1 w1 own1 g1 at1); go_must (have K1 : Keeps (· = q) w w1 := keeps_grown ((Keeps.refl _ _).alloc _) g1 (fun g h => .inr (Nat.le_of_eq (slice_block h))); have hb1 := (hb.alloc (.cells #[] 4)).grown g1 (fun h => by have := slice_block h; omega); have d0 := hb1.cellAt (i := 2) rfl; have df := hb1.frozen; have z1 := K1.size))
    | (at_builtin; go_must (refine wpList_append_has rfl (.tmp 11) (.tmp 13) 32 rfl i0 _ 1 Try.underlying32 hi0 hz0 hz1 hz2 rfl (by omega) rfl (own1.alloc _) (some ⟨w1.heap.size, 0, none⟩) 1 1 [.bool y] rfl (Has.box w1 4 1 1 [.bool y] rfl (by unfold maxLen; omega)) (bools_one [y]) (by unfold maxLen; omega) (by omega) (by simp; omega) ?_); intro v2 w2 own2 g2 at2; obtain ⟨A2, e2, hv2⟩ := own_shape own2; subst hv2; have K2 : Keeps (· = q) w w2 := keeps_grown (K1.alloc _) g2 (fun g h => .inr (own1.lt g h).1); have hb2 := (hb1.alloc (.cells #[.bool y] 4)).grown g2 (own_type_ne own1 hb1 (by decide)); have d0 := hb2.cellAt (i := 2) rfl; have df := hb2.frozen; have z2 := K2.size; have HA2 : ∀ b, (Value.slice A2 0 0).ownBlock = some b → w.heap.size ≤ b := (fun b hb => (own2.lt b ((own_same A2 _ _ _ _).trans hb)).1); have P2 := At.put hb2 own2; have K3 := K2.setCell ⟨q, 2, none⟩ (.inl rfl) (.slice A2 (xs.length + 1) e2); clear own1 g1 at1 own2 g2 at2 hb1 K1)
    | fail)
  clear d0 df hb2 K2 c2 f
  generalize w2.setCell ⟨q, 2, none⟩ (.slice A2 (xs.length + 1) e2) = w3 at *
  have e0 := P2.Bl.cellAt (i := 0) rfl
  have e1 := P2.Bl.cellAt (i := 1) rfl
  have e2' := P2.Bl.cellAt (i := 2) rfl
  rw [show (xs ++ [y]).length = xs.length + 1 by simp] at e2'
  have D3 := Drawn.refl w3
  have hsi : (xs.length : Int) + 1 < (k : Int) := by omega
  have hsb : decide ((xs.length : Int) + 1 < (k : Int)) = true := by simpa using hsi
  go_quiet (fail)
  have D4 := D3.drewN nq
  go_wp2_with fail
  go_ret
  refine ⟨rfl, ⟨A2, e2, P2.stay (D4.keeps _), HA2⟩, K3.trans (D4.keeps (fun _ => False)) (fun _ _ h => h.elim)⟩
set_option maxRecDepth 100000 in
set_option maxHeartbeats 2000000 in
theorem add_long (q : Nat) (A : Option Addr) (c m k : Nat) (xs : List Bool) (y : Bool) (w : World) (h : At w q A c m k xs) (hl : xs.length ≤ 399) (h1 : 1 ≤ k) (hs : k ≤ xs.length + 1) :
    Calls Try.prog 69 #[.pointer (some ⟨q, 0, none⟩), .bool y] w fun r w' => r = .returned (.bool (!bad m k (xs ++ [y]))) ∧ Added w q m k (xs ++ [y]) w' ∧ Keeps (· = q) w w' := by
  obtain ⟨Wn, hWn⟩ : ∃ n : Nat, n = W k (xs ++ [y]) := ⟨_, rfl⟩
  have hbad : (!bad m k (xs ++ [y])) = decide ((m : Int) ≤ (Wn : Int)) := by
    unfold bad
    rw [hWn, show (xs ++ [y]).length = xs.length + 1 by simp, Bool.eq_iff_iff]
    simp
    omega
  rw [hbad]
  have HWN := Lib.hid hWn
  clear hWn hbad
  obtain ⟨i0, hi0, hz0, hz1, hz2⟩ := info_parts infoB
  have hlt := h.lt
  have HLT := Lib.hid hlt
  have hb := h.Bl
  have hh := h.L
  have hql := h.Bl.lt
  clear hlt h
  have c2 := hb.cellAt (i := 2) rfl
  have f := hb.frozen
  have hlen : (xs.map Value.bool).length = xs.length := List.length_map ..
  have HLEN := Lib.hid hlen
  clear hlen
  go_enter Try.func69, Try.ntmps69
  go_wp2_with (first
    | (at_builtin; (refine wpList_append_has rfl (.tmp 6) (.tmp 10) 32 rfl i0 _ 1 Try.underlying32 hi0 hz0 hz1 hz2 rfl (by omega) rfl (own_empty w w.heap.size 4 1 (Nat.le_refl _)) A xs.length c (xs.map Value.bool) rfl (hh.kept ((Keeps.refl (fun _ => False) _).alloc _) (fun _ _ _ _ h => h)) (bools_one _) (by unfold maxLen; omega) (by omega) (by simp) ?_; intro v1 w1 own1 g1 at1); go_must (have K1 : Keeps (· = q) w w1 := keeps_grown ((Keeps.refl _ _).alloc _) g1 (fun g h => .inr (Nat.le_of_eq (slice_block h))); have hb1 := (hb.alloc (.cells #[] 4)).grown g1 (fun h => by have := slice_block h; omega); have d0 := hb1.cellAt (i := 2) rfl; have df := hb1.frozen; have z1 := K1.size))
    | (at_builtin; go_must (refine wpList_append_has rfl (.tmp 11) (.tmp 13) 32 rfl i0 _ 1 Try.underlying32 hi0 hz0 hz1 hz2 rfl (by omega) rfl (own1.alloc _) (some ⟨w1.heap.size, 0, none⟩) 1 1 [.bool y] rfl (Has.box w1 4 1 1 [.bool y] rfl (by unfold maxLen; omega)) (bools_one [y]) (by unfold maxLen; omega) (by omega) (by simp; omega) ?_); intro v2 w2 own2 g2 at2; obtain ⟨A2, e2, hv2⟩ := own_shape own2; subst hv2; have K2 : Keeps (· = q) w w2 := keeps_grown (K1.alloc _) g2 (fun g h => .inr (own1.lt g h).1); have hb2 := (hb1.alloc (.cells #[.bool y] 4)).grown g2 (own_type_ne own1 hb1 (by decide)); have d0 := hb2.cellAt (i := 2) rfl; have df := hb2.frozen; have z2 := K2.size; have HA2 : ∀ b, (Value.slice A2 0 0).ownBlock = some b → w.heap.size ≤ b := (fun b hb => (own2.lt b ((own_same A2 _ _ _ _).trans hb)).1); have P2 := At.put hb2 own2; have K3 := K2.setCell ⟨q, 2, none⟩ (.inl rfl) (.slice A2 (xs.length + 1) e2); clear own1 g1 at1 own2 g2 at2 hb1 K1)
    | fail)
  clear d0 df hb2 K2 c2 f
  generalize w2.setCell ⟨q, 2, none⟩ (.slice A2 (xs.length + 1) e2) = w3 at *
  have e0 := P2.Bl.cellAt (i := 0) rfl
  have e1 := P2.Bl.cellAt (i := 1) rfl
  have e2' := P2.Bl.cellAt (i := 2) rfl
  rw [show (xs ++ [y]).length = xs.length + 1 by simp] at e2'
  have D3 := Drawn.refl w3
  have hsi : ¬ (xs.length : Int) + 1 < (k : Int) := by omega
  have hsb : decide ((xs.length : Int) + 1 < (k : Int)) = false := by simpa using hsi
  have ym := fun n => quiet_eq (n := n) (w := w3) (met_any q A2 e2 m k (xs ++ [y]) xs.length (w3.drewN n) (P2.stay ((Keeps.refl _ _).drewN n)) (by simp) h1 (by omega) (by simp; omega))
  rw [take_all] at ym
  rw [← HWN.out] at ym
  have YM := Lib.hid ym
  clear ym
  go_quiet ((go_at_call 85; exact YM.out _))
  have D4 := D3.drewN nq
  go_wp2_with fail
  go_ret
  refine ⟨rfl, ⟨A2, e2, P2.stay (D4.keeps _), HA2⟩, K3.trans (D4.keeps (fun _ => False)) (fun _ _ h => h.elim)⟩
end RefMon
end Go.Proofs.Ytpfhogbkbodfjab
