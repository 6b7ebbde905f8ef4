/- What each function of the reference's Book does; conditions: at most 200 jobs. -/
import Derived.Test.YtpfhogbkbodfjaaAwake15
namespace Go.Proofs.Ytpfhogbkbodfjaa
open Go.RowKit
set_option linter.unusedVariables false
set_option linter.unusedSimpArgs false
theorem Has.set_ {w : World} {e : TypeId} {size n g off c : Nat} {cs : List Value} (h : Has w e size (.slice (some ⟨g, off, none⟩) n c) n cs) (j : Nat) (u : Value) :
    Has (w.setCell ⟨g, off + j, none⟩ u) e size (.slice (some ⟨g, off, none⟩) n c) n (cs.set j u) := by
  refine ⟨by rw [List.length_set]; exact h.1, ?_⟩
  rcases h.2 with ⟨h0, _⟩ | ⟨g', off', cap, cur, hv, hnc, hcm, hg, hc⟩
  · cases h0
  · cases hv
    refine .inr ⟨g, off, c, cur.setIfInBounds (off + j) u, rfl, hnc, hcm, ?_, ?_⟩
    · simp [World.setCell, Array.getElem?_modify, hg]
    · intro k v hk
      by_cases hjk : k = j
      · subst hjk
        have hlt : k < cs.length := by have := (List.getElem?_eq_some_iff.1 hk).1; simpa using this
        rw [List.getElem?_set_self hlt] at hk
        have := hc k _ (List.getElem?_eq_getElem hlt)
        have hlt2 := (Array.getElem?_eq_some_iff.1 this).1
        rw [Array.getElem?_setIfInBounds_self_of_lt hlt2]; exact hk
      · rw [List.getElem?_set_ne (fun e => hjk e.symm)] at hk
        rw [Array.getElem?_setIfInBounds_ne (by omega)]
        exact hc k v hk
theorem Has.frozen {w : World} {e : TypeId} {size n g off c : Nat} {cs : List Value} (h : Has w e size (.slice (some ⟨g, off, none⟩) n c) n cs) (i : Nat) : w.frozen? ⟨g, i, none⟩ = false := by
  rcases h.2 with ⟨h0, _⟩ | ⟨g', off', cap, cur, hv, hnc, hcm, hg, hc⟩
  · cases h0
  · cases hv
    simp [World.frozen?, hg]
namespace Fate
/-- Say at any arguments. -/
theorem say_any (p g : Nat) (xs : List Fa) (i k t : Int) (w : World) (hl : xs.length ≤ 200) (h : At w p g xs) :
    Calls Try.prog 17 #[.pointer (some ⟨p, 0, none⟩), .int .i64 i, .int .i64 k, .int .i64 t] w fun e w' => e = .returned (.int .i64 (say xs i k t).1) ∧ At w' p g (say xs i k t).2 ∧ Keeps (· = g) w w' := by
  by_cases hb : ¬ (0 ≤ i ∧ i < xs.length) ∨ k < 1 ∨ 5 < k ∨ t < 0
  · refine (say_no p g xs i k t w hl h hb).mono ?_
    rintro e w' ⟨rfl, rfl⟩
    unfold say
    rw [if_pos hb]
    exact ⟨rfl, h, Keeps.refl _ _⟩
  · obtain ⟨j, rfl⟩ : ∃ j : Nat, i = (j : Int) := ⟨i.toNat, by omega⟩
    exact say_yes p g xs j _ k t w hl h (List.getElem?_eq_getElem (by omega)) (by omega) (by omega) (by omega) _ _ rfl
end Fate
namespace RefFate
open Fate
/-- The reference's Book at block p, its list the slice A. -/
structure At (w : World) (p : Nat) (A : Option Addr) (c : Nat) (xs : List Fa) : Prop where
  B : Blk w p 77 [.slice A xs.length c]
  G : Has w 34 2 (.slice A xs.length c) xs.length (xs.flatMap cf)
section
variable {w w' : World} {p c : Nat} {A : Option Addr} {xs : List Fa} {S : Nat → Prop}
theorem At.kept (h : At w p A c xs) (k : Keeps S w w') (hp : ¬ S p) (hg : ∀ g cur, w.heap[g]? = some (.cells cur 34 (0, 0)) → ¬ S g) : At w' p A c xs := ⟨h.B.kept k hp, h.G.kept k fun g cur hg' _ => hg g cur hg'⟩
theorem At.apart (h : At w p A c xs) (k : Keeps S w w') (hp : ¬ S p) (hg : ∀ g o, A = some ⟨g, o, none⟩ → ¬ S g) : At w' p A c xs := ⟨h.B.kept k hp, h.G.kept k fun g cur hg' hb => by
  rcases h.G.2 with ⟨h0, _⟩ | ⟨g', off', cap, cur', hv, _⟩
  · injection h0 with hA
    subst hA
    cases hb
  · injection hv with hA
    subst hA
    cases hb
    exact hg _ _ rfl⟩
theorem At.cell (h : At w p A c xs) {i : Nat} {f : Fa} (hf : xs[i]? = some f) :
    ∃ g off, A = some ⟨g, off, none⟩ ∧ w.cell? ⟨g, off + i * 2, none⟩ = some (.int .i64 f.k) ∧ w.cell? ⟨g, off + (i * 2 + 1), none⟩ = some (.int .i64 f.t) := by
  have hi := (List.getElem?_eq_some_iff.1 hf).1
  obtain ⟨g, off, hA, hc⟩ := h.G.at_ (by omega)
  exact ⟨g, off, hA, hc _ _ (flat_at cf_len hf (j := 0) rfl), hc _ _ (flat_at cf_len hf (j := 1) rfl)⟩
theorem At.none (h : At w p A c xs) (k : Keeps (fun _ => False) w w') : At w' p A c xs := h.kept k (fun h => h) (fun _ _ _ h => h)
end
set_option maxRecDepth 100000 in
set_option maxHeartbeats 1000000 in
theorem count_any (p : Nat) (A : Option Addr) (c : Nat) (xs : List Fa) (k : Int) (w : World) (hl : xs.length ≤ 200) (h : At w p A c xs) :
    Calls Try.prog 40 #[.pointer (some ⟨p, 0, none⟩), .int .i64 k] w fun e w' => e = .returned (.int .i64 ((count xs k : Nat) : Int)) ∧ Keeps (fun _ => False) w w' := by
  have c0 := h.B.cellAt (i := 0) rfl
  obtain ⟨n, hn⟩ : ∃ n, n = xs.length := ⟨_, rfl⟩
  rw [← hn] at c0 hl
  have HN := Lib.hid hn
  clear hn
  have K := Keeps.refl (fun _ => False) w
  go_enter Try.func40, Try.ntmps40
  go_wp2_with fail
  go_loopw [5, 6] (fun m i wr => ∃ j : Nat, j ≤ n ∧ i = .int .i64 j ∧ m = .int .i64 ((count (xs.take j) k : Nat) : Int) ∧ Keeps (fun _ => False) w wr) (fun _ i _ => n - (intOf i).toNat)
  case atStart => exact ⟨0, by omega, rfl, rfl, K⟩
  case round =>
    obtain ⟨j, hj, rfl, rfl, HK⟩ := hrel
    have hcl : count (xs.take j) k ≤ j := Nat.le_trans (count_le _ _) (List.length_take_le _ _)
    have c1 := (h.none HK).B.cellAt (i := 0) rfl
    rw [← HN.out] at c1
    by_cases hlt : j < n
    · have hx : xs[j]? = some (xs[j]'(by have := HN.out; omega)) := List.getElem?_eq_getElem _
      obtain ⟨f, hf⟩ : ∃ f, xs[j]? = some f := ⟨_, hx⟩
      clear hx
      have HA := h.none HK
      obtain ⟨g, off, rfl, d0, d1⟩ := HA.cell hf
      have HF := Lib.hid hf
      have HC := Lib.hid (count_snoc (xs.take j) f k)
      clear hf
      go_wp2_with fail
      · have ht : (f.k == k) = true := by assumption
        go_roundw
        case rel => exact ⟨j + 1, by omega, by go_num, by rw [take_next HF.out, HC.out, ht]; go_num, HK⟩
        case measure => simp [intOf]; omega
      · have ht : (f.k == k) = false := by assumption
        go_roundw
        case rel => exact ⟨j + 1, by omega, by go_num, by rw [take_next HF.out, HC.out, ht]; go_num, HK⟩
        case measure => simp [intOf]; omega
    · go_wp2_with fail
      go_ret
      exact ⟨by rw [List.take_of_length_le (by have := HN.out; omega)]; rfl, HK⟩
set_option maxRecDepth 100000 in
set_option maxHeartbeats 2000000 in
theorem open_any (p : Nat) (A0 : Option Addr) (c0 : Nat) (xs : List Fa) (w : World) (hl : xs.length ≤ 200) (h : At w p A0 c0 xs) :
    Calls Try.prog 42 #[.pointer (some ⟨p, 0, none⟩)] w fun e w' => ∃ A c, e = .returned (.slice A (openL xs).length c) ∧ Has w' 3 1 (.slice A (openL xs).length c) (openL xs).length ((openL xs).map (Value.int .i64)) ∧ Keeps (fun _ => False) w w' := by
  obtain ⟨i0, hi0, hz0, hz1, hz2⟩ := info_parts infoI
  have hc0 := h.B.cellAt (i := 0) rfl
  obtain ⟨n, hn⟩ : ∃ n, n = xs.length := ⟨_, rfl⟩
  rw [← hn] at hc0 hl
  have HN := Lib.hid hn
  clear hn
  have K := Keeps.refl (fun _ => False) w
  go_enter Try.func42, Try.ntmps42
  go_wp2_with fail
  go_loopw [3, 4] (fun v i wr => ∃ j : Nat, j ≤ n ∧ i = .int .i64 j ∧ wr.ownsRow w.heap.size 3 1 v (openL (xs.take j)).length ((openL (xs.take j)).map (Value.int .i64)) ∧ Keeps (fun _ => False) w wr) (fun _ i _ => n - (intOf i).toNat)
  case atStart => exact ⟨0, by omega, rfl, World.ownsRow_nil _ _ _ _, K⟩
  case round =>
    obtain ⟨j, hj, rfl, HO, HK⟩ := hrel
    have hcl : (openL (xs.take j)).length ≤ j := Nat.le_trans (openL_le _) (List.length_take_le _ _)
    have c1 := (h.none HK).B.cellAt (i := 0) rfl
    rw [← HN.out] at c1
    by_cases hlt : j < n
    · obtain ⟨f, hf⟩ : ∃ f, xs[j]? = some f := ⟨_, List.getElem?_eq_getElem (by have := HN.out; omega)⟩
      have HA := h.none HK
      obtain ⟨g, off, rfl, d0, d1⟩ := HA.cell hf
      have htl : (xs.take j).length = j := by rw [List.length_take]; have := HN.out; omega
      have hos := openL_snoc (xs.take j) f
      rw [htl] at hos
      have HF := Lib.hid hf
      have HC := Lib.hid hos
      clear hf htl hos
      obtain ⟨zs, hzs⟩ : ∃ zs, zs = openL (xs.take j) := ⟨_, rfl⟩
      rw [← hzs] at HO hcl HC
      clear hzs
      have hsz := HK.size
      by_cases hk : f.k = 0
      · have hkb : (f.k == 0) = true := by simp [hk]
        clear hk
        rw [hkb] at HC
        go_wp2_with (at_builtin; refine wpList_append_has rfl (.tmp 23) (.tmp 25) 37 rfl i0 _ 8 Try.underlying37 hi0 hz0 hz1 hz2 rfl (by omega) rfl (HO.alloc _) (some ⟨wr.heap.size, 0, none⟩) 1 1 [.int .i64 (j : Int)] rfl (by have := Has.box wr 3 1 1 [.int .i64 (j : Int)] rfl (by unfold maxLen; omega); simpa using this) (ints_one .i64 [(j : Int)]) (by unfold maxLen; omega) (by omega) (by simp; omega) ?_; intro v1 w1 own1 g1 at1)
        have K1 : Keeps (fun _ => False) w w1 := keeps_grown (HK.alloc _) g1 (fun k hk => .inr (HO.lt k hk).1)
        clear g1 at1
        go_wp2_with fail
        go_roundw
        case rel => exact ⟨j + 1, by omega, by go_num, by rw [take_next HF.out, HC.out]; simpa using own1, K1⟩
        case measure => simp [intOf]; omega
      · have hkb : (f.k == 0) = false := by simp [hk]
        clear hk
        rw [hkb] at HC
        go_wp2_with fail
        go_roundw
        case rel => exact ⟨j + 1, by omega, by go_num, by rw [take_next HF.out, HC.out]; simpa using HO, HK⟩
        case measure => simp [intOf]; omega
    · rw [List.take_of_length_le (by have := HN.out; omega)] at HO
      obtain ⟨A, c, hv⟩ := own_shape HO
      subst hv
      have HH := Has.of_own HO
      go_wp2_with fail
      go_ret
      exact ⟨A, c, rfl, HH, HK⟩
set_option maxRecDepth 100000 in
set_option maxHeartbeats 2000000 in
theorem say_yes (p : Nat) (A : Option Addr) (c : Nat) (xs : List Fa) (i : Nat) (f : Fa) (k t : Int) (w : World) (hl : xs.length ≤ 200) (h : At w p A c xs) (hf : xs[i]? = some f) (h1 : 1 ≤ k) (h2 : k ≤ 5) (h3 : 0 ≤ t) :
    Calls Try.prog 39 #[.pointer (some ⟨p, 0, none⟩), .int .i64 (i : Int), .int .i64 k, .int .i64 t] w fun e w' => e = .returned (.int .i64 (say xs i k t).1) ∧ (∃ A' c', At w' p A' c' (say xs i k t).2 ∧ (A' = A ∨ ∀ g o, A' = some ⟨g, o, none⟩ → w.heap.size ≤ g)) ∧ Keeps (· = p) w w' := by
  obtain ⟨i0, hi0, hz0, hz1, hz2⟩ := info_parts infoF
  have hlt : i < xs.length := (List.getElem?_eq_some_iff.1 hf).1
  have hli : (i : Int) < (xs.length : Int) := by omega
  have hi0' : (0 : Int) ≤ (i : Int) := by omega
  have c0 := h.B.cellAt (i := 0) rfl
  obtain ⟨g, off, rfl, d0, d1⟩ := h.cell hf
  have hsay : say xs i k t = if f.k = 0 then (0, xs.set i ⟨k, t⟩) else (5, xs) := by
    unfold say
    rw [if_neg (by omega), Int.toNat_natCast, hf]
    by_cases hk : f.k = 0
    · rw [if_pos hk, if_neg (by simp [hk])]
    · rw [if_neg hk, if_pos (by simp [hk])]
  by_cases hk : f.k = 0
  · have hkb : (f.k != 0) = false := by simp [hk]
    rw [hsay, if_pos hk]
    clear hk hsay
    have HF := Lib.hid hf
    clear hf
    go_enter Try.func39, Try.ntmps39
    have c1 : (w.alloc (.cells #[] 34)).cell? ⟨p, 0, none⟩ = some (.slice (some ⟨g, off, none⟩) xs.length c) := (h.B.alloc _).cellAt (i := 0) rfl
    go_wp2_with (at_builtin; refine wpList_append_has rfl (.tmp 42) (.tmp 46) 73 rfl i0 _ 16 Try.underlying73 hi0 hz0 hz1 hz2 rfl (by omega) rfl (own_empty w w.heap.size 34 2 (Nat.le_refl _)) (some ⟨g, off, none⟩) xs.length c (xs.flatMap cf) rfl (h.G.kept ((Keeps.refl (fun _ => False) _).alloc _) (fun _ _ _ _ h => h)) (cells_one _) (by unfold maxLen; omega) (by omega) (by simp) ?_; intro v1 w1 own1 g1 at1)
    have K1 : Keeps (fun _ => False) w w1 := keeps_grown ((Keeps.refl _ _).alloc _) g1 (fun g h => .inr (Nat.le_of_eq (slice_block h)))
    simp only [Nat.zero_add, List.nil_append] at own1
    obtain ⟨A2, c2, hv2⟩ := own_shape own1
    subst hv2
    have HH := Has.of_own own1
    have hb : ∀ g o, A2 = some ⟨g, o, none⟩ → w.heap.size ≤ g := fun g o he => (own1.lt g (by rw [he]; rfl)).1
    have HB := h.B.kept K1 (fun h => h)
    have hpl := h.B.lt
    clear own1 g1 at1 c0 c1 d0 d1
    obtain ⟨g2, o2, rfl, hcs⟩ := HH.at_ (by omega)
    have d0 : w1.cell? ⟨g2, o2 + i * 2, none⟩ = some _ := hcs _ _ (flat_at cf_len HF.out (j := 0) rfl)
    have d1 : w1.cell? ⟨g2, o2 + i * 2 + 1, none⟩ = some _ := hcs _ _ (flat_at cf_len HF.out (j := 1) rfl)
    have fz := HH.frozen
    have hg2 := hb g2 o2 rfl
    have hne : p ≠ g2 := by omega
    have fzp := HB.frozen
    have hpc := HB.cellAt (i := 0) rfl
    clear hcs hb
    go_wp2_with fail
    go_simp
    go_wp2_with fail
    go_simp
    go_wp2_with fail
    go_ret
    refine ⟨rfl, ⟨some ⟨g2, o2, none⟩, ⟨c2, At.mk ?ga ?gb⟩, .inr (fun g o he => by cases he; exact hg2)⟩, ?gk⟩
    case ga =>
      rw [List.length_set]
      exact ((HB.far (p := ⟨g2, o2 + i * 2, none⟩) hne _).far (p := ⟨g2, o2 + i * 2 + 1, none⟩) hne _).set_ 0 _
    case gb =>
      rw [List.length_set, flat_set cf_len (by omega)]
      have := (HH.set_ (i * 2) (.int .i64 k)).set_ (i * 2 + 1) (.int .i64 t)
      refine Has.kept (S := (· = p)) this ((keep1 p _).setCell _ (.inl rfl) _) ?_
      intro g cur _ hb
      cases hb
      exact fun h => hne h.symm
    case gk =>
      have K2 : Keeps (· = p) w w1 := K1.mono (fun _ _ h => h.elim)
      exact ((K2.setCell ⟨g2, o2 + i * 2, none⟩ (.inr hg2) _).setCell ⟨g2, o2 + i * 2 + 1, none⟩ (.inr hg2) _).setCell ⟨p, 0, none⟩ (.inl rfl) _
  · have hkb : (f.k != 0) = true := by simp [hk]
    rw [hsay, if_neg hk]
    clear hk hsay
    go_enter Try.func39, Try.ntmps39
    go_wp2_with fail
    go_ret
    exact ⟨rfl, ⟨_, _, h, .inl rfl⟩, Keeps.refl _ _⟩
set_option maxHeartbeats 2000000 in
theorem say_no (p : Nat) (A : Option Addr) (c : Nat) (xs : List Fa) (i k t : Int) (w : World) (hl : xs.length ≤ 200) (h : At w p A c xs) (hb : ¬ (0 ≤ i ∧ i < xs.length) ∨ k < 1 ∨ 5 < k ∨ t < 0) :
    Calls Try.prog 39 #[.pointer (some ⟨p, 0, none⟩), .int .i64 i, .int .i64 k, .int .i64 t] w fun e w' => e = .returned (.int .i64 1) ∧ w = w' := by
  have c0 := h.B.cellAt (i := 0) rfl
  by_cases h0 : i < 0
  · clear hb
    go_enter Try.func39, Try.ntmps39
    go_wp2_with fail
    all_goals go_ret
    all_goals exact ⟨rfl, rfl⟩
  · go_enter Try.func39, Try.ntmps39
    go_wp2_with fail
    all_goals go_ret
    all_goals exact ⟨rfl, rfl⟩
/-- Say at any arguments. -/
theorem say_any (p : Nat) (A : Option Addr) (c : Nat) (xs : List Fa) (i k t : Int) (w : World) (hl : xs.length ≤ 200) (h : At w p A c xs) :
    Calls Try.prog 39 #[.pointer (some ⟨p, 0, none⟩), .int .i64 i, .int .i64 k, .int .i64 t] w fun e w' => e = .returned (.int .i64 (say xs i k t).1) ∧ (∃ A' c', At w' p A' c' (say xs i k t).2 ∧ (A' = A ∨ ∀ g o, A' = some ⟨g, o, none⟩ → w.heap.size ≤ g)) ∧ Keeps (· = p) w w' := by
  by_cases hb : ¬ (0 ≤ i ∧ i < xs.length) ∨ k < 1 ∨ 5 < k ∨ t < 0
  · refine (say_no p A c xs i k t w hl h hb).mono ?_
    rintro e w' ⟨rfl, rfl⟩
    unfold say
    rw [if_pos hb]
    exact ⟨rfl, ⟨_, _, h, .inl rfl⟩, Keeps.refl _ _⟩
  · obtain ⟨j, rfl⟩ : ∃ j : Nat, i = (j : Int) := ⟨i.toNat, by omega⟩
    exact say_yes p A c xs j _ k t w hl h (List.getElem?_eq_getElem (by omega)) (by omega) (by omega) (by omega)
/-- Two that are told apart by nothing. -/
theorem fate_ne (a b : Int) (W : World) : (binOp .neq 34 (.agg #[.int .i64 a, .int .i64 b]) (.agg #[.int .i64 a, .int .i64 b])).run Try.prog W = .ok (.bool false) W := by
  rw [run_neq_struct, show (10000 : Nat) = 9999 + 1 from rfl, run_equalIn_agg W 9999 34 _ _ (by kernel_rfl) (by kernel_rfl)]
  simp only [Program.fieldsOf, Try.underlying34]
  go_simp
end RefFate
end Go.Proofs.Ytpfhogbkbodfjaa
