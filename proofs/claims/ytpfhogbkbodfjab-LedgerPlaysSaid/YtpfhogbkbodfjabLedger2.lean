/- Earn and Lose at any arguments; Earned, Lost, Till, Rows; what every law of chapter 14 asks first; conditions: at most 100 rows. -/
import Derived.Test.YtpfhogbkbodfjabLedger
namespace Go.Proofs.Ytpfhogbkbodfjab
open Go.RowKit
set_option linter.unusedVariables false
set_option linter.unusedSimpArgs false
namespace Led

set_option maxHeartbeats 1000000 in
theorem earn_no (p m : Nat) (A : Option Addr) (c : Nat) (l : List (ByteArray × Value)) (xs : List LRow) (t : Int) (n : ByteArray) (v : Int) (w : World) (hl : xs.length ≤ 99) (h : At w p m A c l xs) (r : Int) (hm : may xs t v (earn xs) = r) (hr : r ≠ 0) :
    Calls Try.prog 50 #[.pointer (some ⟨p, 0, none⟩), .int .i64 t, .string n, .int .i64 v] w fun e w' => e = .returned (.int .i64 r) ∧ Drawn w w' := by
  have hc1 := h.B.cellAt (i := 1) rfl
  have HM := Lib.hid hm
  have hrb : (r != 0) = true := by simpa using hr
  have e0 := earn_nn xs
  have e1 := h.X.e
  have l0 := loss_nn xs
  have l1 := h.X.l
  clear hm hr
  go_enter Try.func50, Try.ntmps50
  go_wp2_with fail
  refine (may_any p m A c l xs t v (earn xs) _ (by omega) h e0 e1).mono ?_
  rintro e w1 ⟨rfl, D1⟩
  rw [HM.out]
  go_wp2_with fail
  go_ret
  exact ⟨rfl, D1⟩
theorem earn_any (p : Nat) (F : Nat → Prop) (xs : List LRow) (t : Int) (n : ByteArray) (v : Int) (w : World) (hl : xs.length ≤ 99) (h : Is w p F xs) (ht : t ≤ 9223372036854775807) (hn : n.size ≤ maxLen) (r : Int) (ys : List LRow) (hs : add xs t n v true = (r, ys)) :
    Calls Try.prog 50 #[.pointer (some ⟨p, 0, none⟩), .int .i64 t, .string n, .int .i64 v] w fun e w' => e = .returned (.int .i64 r) ∧ (∃ F', Is w' p F' ys ∧ ∀ b, F' b → F b ∨ w.heap.size ≤ b) ∧ Keeps F w w' := by
  obtain ⟨m, A, c, l, ha, rfl⟩ := h
  unfold add at hs
  simp only [if_true] at hs
  by_cases hm : may xs t v (earn xs) = 0
  · rw [if_pos hm] at hs
    cases hs
    refine (earn_yes p m A c l xs t n v w hl ha hm ht hn).mono ?_
    rintro e w' ⟨he, ⟨A', c', l', h1, h2⟩, hk⟩
    exact ⟨he, ⟨Foot p m A', ⟨m, A', c', l', h1, rfl⟩, h2⟩, hk⟩
  · rw [if_neg hm] at hs
    cases hs
    refine (earn_no p m A c l xs t n v w hl ha _ rfl hm).mono ?_
    rintro e w' ⟨he, hd⟩
    exact ⟨he, ⟨Foot p m A, ⟨m, A, c, l, ha.stay (hd.keeps _), rfl⟩, fun b hb => .inl hb⟩, hd.keeps _⟩
/-- .. of a Ledger of the call's own. -/
theorem earn_own {B : Nat} {w0 : World} (p : Nat) (F : Nat → Prop) (xs : List LRow) (t : Int) (n : ByteArray) (v : Int) (w : World) (hl : xs.length ≤ 99) (h : Is w p F xs) (ht : t ≤ 9223372036854775807) (hn : n.size ≤ maxLen) (r : Int) (ys : List LRow) (hs : add xs t n v true = (r, ys))
    (hB : Below B w0 w) (hz : B ≤ w.heap.size) (hF : ∀ b, F b → B ≤ b) :
    Calls Try.prog 50 #[.pointer (some ⟨p, 0, none⟩), .int .i64 t, .string n, .int .i64 v] w fun e w' => e = .returned (.int .i64 r) ∧ ∃ F', Is w' p F' ys ∧ (∀ b, F' b → B ≤ b) ∧ Below B w0 w' ∧ B ≤ w'.heap.size := by
  refine (earn_any p F xs t n v w hl h ht hn r ys hs).mono ?_
  rintro e w' ⟨he, ⟨F', h1, h2⟩, hk⟩
  exact ⟨he, F', h1, fun b hb => (h2 b hb).elim (hF b) (fun h => Nat.le_trans hz h), below_keeps hB hk hz hF, Nat.le_trans hz hk.size⟩

set_option maxHeartbeats 1000000 in
theorem lose_no (p m : Nat) (A : Option Addr) (c : Nat) (l : List (ByteArray × Value)) (xs : List LRow) (t : Int) (n : ByteArray) (v : Int) (w : World) (hl : xs.length ≤ 99) (h : At w p m A c l xs) (r : Int) (hm : may xs t v (loss xs) = r) (hr : r ≠ 0) :
    Calls Try.prog 51 #[.pointer (some ⟨p, 0, none⟩), .int .i64 t, .string n, .int .i64 v] w fun e w' => e = .returned (.int .i64 r) ∧ Drawn w w' := by
  have hc1 := h.B.cellAt (i := 2) rfl
  have HM := Lib.hid hm
  have hrb : (r != 0) = true := by simpa using hr
  have e0 := earn_nn xs
  have e1 := h.X.e
  have l0 := loss_nn xs
  have l1 := h.X.l
  clear hm hr
  go_enter Try.func51, Try.ntmps51
  go_wp2_with fail
  refine (may_any p m A c l xs t v (loss xs) _ (by omega) h l0 l1).mono ?_
  rintro e w1 ⟨rfl, D1⟩
  rw [HM.out]
  go_wp2_with fail
  go_ret
  exact ⟨rfl, D1⟩
theorem lose_any (p : Nat) (F : Nat → Prop) (xs : List LRow) (t : Int) (n : ByteArray) (v : Int) (w : World) (hl : xs.length ≤ 99) (h : Is w p F xs) (ht : t ≤ 9223372036854775807) (hn : n.size ≤ maxLen) (r : Int) (ys : List LRow) (hs : add xs t n v false = (r, ys)) :
    Calls Try.prog 51 #[.pointer (some ⟨p, 0, none⟩), .int .i64 t, .string n, .int .i64 v] w fun e w' => e = .returned (.int .i64 r) ∧ (∃ F', Is w' p F' ys ∧ ∀ b, F' b → F b ∨ w.heap.size ≤ b) ∧ Keeps F w w' := by
  obtain ⟨m, A, c, l, ha, rfl⟩ := h
  unfold add at hs
  simp only [Bool.false_eq_true, if_false] at hs
  by_cases hm : may xs t v (loss xs) = 0
  · rw [if_pos hm] at hs
    cases hs
    refine (lose_yes p m A c l xs t n v w hl ha hm ht hn).mono ?_
    rintro e w' ⟨he, ⟨A', c', l', h1, h2⟩, hk⟩
    exact ⟨he, ⟨Foot p m A', ⟨m, A', c', l', h1, rfl⟩, h2⟩, hk⟩
  · rw [if_neg hm] at hs
    cases hs
    refine (lose_no p m A c l xs t n v w hl ha _ rfl hm).mono ?_
    rintro e w' ⟨he, hd⟩
    exact ⟨he, ⟨Foot p m A, ⟨m, A, c, l, ha.stay (hd.keeps _), rfl⟩, fun b hb => .inl hb⟩, hd.keeps _⟩
/-- .. of a Ledger of the call's own. -/
theorem lose_own {B : Nat} {w0 : World} (p : Nat) (F : Nat → Prop) (xs : List LRow) (t : Int) (n : ByteArray) (v : Int) (w : World) (hl : xs.length ≤ 99) (h : Is w p F xs) (ht : t ≤ 9223372036854775807) (hn : n.size ≤ maxLen) (r : Int) (ys : List LRow) (hs : add xs t n v false = (r, ys))
    (hB : Below B w0 w) (hz : B ≤ w.heap.size) (hF : ∀ b, F b → B ≤ b) :
    Calls Try.prog 51 #[.pointer (some ⟨p, 0, none⟩), .int .i64 t, .string n, .int .i64 v] w fun e w' => e = .returned (.int .i64 r) ∧ ∃ F', Is w' p F' ys ∧ (∀ b, F' b → B ≤ b) ∧ Below B w0 w' ∧ B ≤ w'.heap.size := by
  refine (lose_any p F xs t n v w hl h ht hn r ys hs).mono ?_
  rintro e w' ⟨he, ⟨F', h1, h2⟩, hk⟩
  exact ⟨he, F', h1, fun b hb => (h2 b hb).elim (hF b) (fun h => Nat.le_trans hz h), below_keeps hB hk hz hF, Nat.le_trans hz hk.size⟩

theorem earned_any (p : Nat) (F : Nat → Prop) (xs : List LRow) (w : World) (h : Is w p F xs) :
    Calls Try.prog 58 #[.pointer (some ⟨p, 0, none⟩)] w fun e w' => e = .returned (.int .i64 (earn xs)) ∧ w = w' := by
  obtain ⟨m, A, c, l, ha, rfl⟩ := h
  have hc1 := ha.B.cellAt (i := 1) rfl
  go_enter Try.func58, Try.ntmps58
  go_wp2_with fail
  go_ret
  exact ⟨rfl, rfl⟩

theorem lost_any (p : Nat) (F : Nat → Prop) (xs : List LRow) (w : World) (h : Is w p F xs) :
    Calls Try.prog 60 #[.pointer (some ⟨p, 0, none⟩)] w fun e w' => e = .returned (.int .i64 (loss xs)) ∧ w = w' := by
  obtain ⟨m, A, c, l, ha, rfl⟩ := h
  have hc1 := ha.B.cellAt (i := 2) rfl
  go_enter Try.func60, Try.ntmps60
  go_wp2_with fail
  go_ret
  exact ⟨rfl, rfl⟩

set_option maxRecDepth 100000 in
set_option maxHeartbeats 1000000 in
theorem till_any (p : Nat) (F : Nat → Prop) (xs : List LRow) (t : Int) (w : World) (hl : xs.length ≤ 100) (h : Is w p F xs) :
    Calls Try.prog 54 #[.pointer (some ⟨p, 0, none⟩), .int .i64 t] w fun e w' => e = .returned (.int .i64 (till xs t)) ∧ Keeps (fun _ => False) w w' := by
  obtain ⟨m, A, c, l, ha, rfl⟩ := h
  have c0 := ha.B.cellAt (i := 0) rfl
  have X := Lib.hid ha.X
  obtain ⟨n, hn⟩ : ∃ n, n = xs.length := ⟨_, rfl⟩
  rw [← hn] at c0 hl
  have HN := Lib.hid hn
  clear hn
  have K := Keeps.refl (fun _ => False) w
  go_enter Try.func54, Try.ntmps54
  go_wp2_with fail
  go_loopw [5, 13] (fun s i wr => ∃ j : Nat, j ≤ n ∧ i = .int .i64 j ∧ s = .int .i64 (till (xs.take j) t) ∧ Keeps (fun _ => False) w wr) (fun _ i _ => n - (intOf i).toNat)
  case atStart => exact ⟨0, by omega, rfl, rfl, K⟩
  case round =>
    obtain ⟨j, hj, rfl, rfl, HK⟩ := hrel
    by_cases hlt : j < n
    · obtain ⟨f, hf⟩ : ∃ f, xs[j]? = some f := ⟨_, List.getElem?_eq_getElem (by have := HN.out; omega)⟩
      obtain ⟨g, off, rfl, d0, d1, d2⟩ := (ha.stay HK).cell hf
      have b1 := till_bd (xs.take (j + 1)) t
      have b2 := earn_take xs (j + 1)
      have b3 := loss_take xs (j + 1)
      have b4 := X.out.e
      have b5 := X.out.l
      have hsn : till (xs.take (j + 1)) t = till (xs.take j) t + if f.t ≤ t then f.v else 0 := sumBy_next hf
      have bd : -4611686018427387904 ≤ till (xs.take (j + 1)) t ∧ till (xs.take (j + 1)) t ≤ 4611686018427387904 := by omega
      rw [hsn] at bd
      have HS := Lib.hid hsn
      have hj0 : (0 : Int) ≤ (j : Int) := by omega
      have hj1 : (j : Int) < (n : Int) := by omega
      clear b1 b2 b3 b4 b5 hsn hf
      by_cases ht : f.t ≤ t
      · rw [if_pos ht] at bd HS
        go_wp2_with fail
        go_roundw
        case rel => exact ⟨j + 1, by omega, by go_num, by rw [HS.out], HK.alloc _⟩
        case measure => simp [intOf]; omega
      · rw [if_neg ht, Int.add_zero] at bd HS
        go_wp2_with fail
        go_roundw
        case rel => exact ⟨j + 1, by omega, by go_num, by rw [HS.out], HK.alloc _⟩
        case measure => simp [intOf]; omega
    · go_wp2_with fail
      go_ret
      exact ⟨by rw [List.take_of_length_le (by have := HN.out; omega)]; rfl, HK⟩

set_option maxRecDepth 100000 in
set_option maxHeartbeats 1000000 in
theorem clone_any (A : Option Addr) (c : Nat) (xs : List LRow) (w : World) (hl : xs.length ≤ 100) (h : Has w 85 3 (.slice A xs.length c) xs.length (xs.flatMap cf)) :
    Calls Try.prog 79 #[.slice A xs.length c] w fun e w' => ∃ A' c', e = .returned (.slice A' xs.length c') ∧ Has w' 85 3 (.slice A' xs.length c') xs.length (xs.flatMap cf) ∧ (∀ g o, A' = some ⟨g, o, none⟩ → w.heap.size ≤ g) ∧ Keeps (fun _ => False) w w' := by
  obtain ⟨i0, hi0, hz0, hz1, hz2⟩ := info_parts infoR
  have hnil := fun (W : World) (a : Option Addr) (n c n' c' : Nat) => Lib.run_eql_slice_nil (P := Try.prog) W 82 85 a n c n' c' Try.underlying82
  have K := Keeps.refl (fun _ => False) w
  rcases h.2 with ⟨hv, h0⟩ | ⟨g, off, cap, cur, hv, _⟩
  · injection hv with hA hn hc
    subst hA hc
    rw [h0] at h
    have hx : xs = [] := List.eq_nil_of_length_eq_zero h0
    subst hx
    clear h0 hn
    go_enter Try.func79, Try.ntmps79
    go_wp2_with fail
    go_ret
    exact ⟨none, 0, rfl, h, (fun _ _ e => nomatch e), K⟩
  · injection hv with hA hn hc
    subst hA hc
    clear hn
    go_enter Try.func79, Try.ntmps79
    go_wp2_with (at_builtin; refine wpList_append_has rfl (.tmp 5) (.tmp 6) 82 rfl i0 _ 32 Try.underlying82 hi0 hz0 hz1 hz2 rfl (by omega) rfl (own_empty w w.heap.size 85 3 (Nat.le_refl _)) (some ⟨g, off, none⟩) xs.length c (xs.flatMap cf) rfl (h.kept ((Keeps.refl (fun _ => False) _).alloc _) (fun _ _ _ _ h => h)) (cells_one _) (by unfold maxLen; omega) (by omega) (by simp) ?_; intro v1 w1 own1 g1 at1)
    have K1 : Keeps (fun _ => False) w w1 := keeps_grown ((Keeps.refl _ _).alloc _) g1 (fun g h => .inr (Nat.le_of_eq (slice_block h)))
    simp only [Nat.zero_add, List.nil_append] at own1
    obtain ⟨A2, c2, hv2⟩ := own_shape own1
    subst hv2
    have HH := Has.of_own own1
    have hb : ∀ g o, A2 = some ⟨g, o, none⟩ → w.heap.size ≤ g := fun g o he => (own1.lt g (by rw [he]; rfl)).1
    clear own1 g1 at1
    go_wp2_with fail
    go_ret
    exact ⟨A2, c2, rfl, HH, hb, K1⟩
theorem rows_any (p : Nat) (F : Nat → Prop) (xs : List LRow) (w : World) (hl : xs.length ≤ 100) (h : Is w p F xs) :
    Calls Try.prog 53 #[.pointer (some ⟨p, 0, none⟩)] w fun e w' => ∃ A' c', e = .returned (.slice A' xs.length c') ∧ Has w' 85 3 (.slice A' xs.length c') xs.length (xs.flatMap cf) ∧ (∀ g o, A' = some ⟨g, o, none⟩ → w.heap.size ≤ g) ∧ Keeps (fun _ => False) w w' := by
  obtain ⟨m, A, c, l, ha, rfl⟩ := h
  have c0 := ha.B.cellAt (i := 0) rfl
  have hh := ha.has
  go_enter Try.func53, Try.ntmps53
  go_wp2_with fail
  refine (clone_any A c xs _ hl hh).mono ?_
  rintro e w1 ⟨A', c', rfl, H1, H2, k1⟩
  go_wp2_with fail
  go_ret
  exact ⟨A', c', rfl, H1, H2, k1⟩
set_option maxRecDepth 100000 in
set_option maxHeartbeats 2000000 in
theorem awake_ok (w : World) : Calls Try.prog 47 #[] w fun e w' => e = .returned (.bool true) ∧ Below w.heap.size w w' := by
  have hna : (⟨#[97]⟩ : ByteArray).size ≤ maxLen := by decide
  go_enter Try.func47, Try.ntmps47
  go_wp2_with fail
  refine (new_any _).mono ?_
  rintro e w1 ⟨p, F, rfl, hF, H1, k1⟩
  have B1 : Below w.heap.size w w1 := k1.below (fun _ _ h => h)
  have z1 := k1.size
  clear k1
  go_wp2_with fail
  refine (earn_own p F [] 1 ⟨#[97]⟩ 5 _ (by simp) H1 (by omega) hna 0 [⟨1, ⟨#[97]⟩, 5⟩] rfl B1 z1 hF).mono ?_
  rintro e w2 ⟨rfl, F2, H2, hF2, B2, z2⟩
  clear H1 B1 z1 hF
  go_wp2_with fail
  refine (lose_own p F2 _ 2 ⟨#[97]⟩ 3 _ (by simp) H2 (by omega) hna 0 [⟨1, ⟨#[97]⟩, 5⟩, ⟨2, ⟨#[97]⟩, -3⟩] rfl B2 z2 hF2).mono ?_
  rintro e w3 ⟨rfl, F3, H3, hF3, B3, z3⟩
  clear H2 B2 z2 hF2
  go_wp2_with fail
  refine (till_any p F3 _ 2 _ (by simp) H3).mono ?_
  rintro e w4 ⟨rfl, k4⟩
  have H4 := H3.stay k4
  have B4 := below_keeps B3 k4 z3 (fun _ h => h.elim)
  rw [show till [⟨1, ⟨#[97]⟩, 5⟩, ⟨2, ⟨#[97]⟩, -3⟩] 2 = 2 from by decide]
  clear k4 H3 B3
  go_wp2_with fail
  refine (earned_any p F3 _ _ H4).mono ?_
  rintro e w5 ⟨rfl, rfl⟩
  rw [show earn [⟨1, ⟨#[97]⟩, 5⟩, ⟨2, ⟨#[97]⟩, -3⟩] = 5 from by decide]
  go_wp2_with fail
  refine (lost_any p F3 _ _ H4).mono ?_
  rintro e w5 ⟨rfl, rfl⟩
  rw [show loss [⟨1, ⟨#[97]⟩, 5⟩, ⟨2, ⟨#[97]⟩, -3⟩] = 3 from by decide]
  go_wp2_with fail
  go_ret
  exact ⟨rfl, B4⟩

end Led
end Go.Proofs.Ytpfhogbkbodfjab
