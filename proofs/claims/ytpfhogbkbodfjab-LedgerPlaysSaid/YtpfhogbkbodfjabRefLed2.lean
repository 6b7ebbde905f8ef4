/- The reference's Write at any arguments; the program's By and Best; conditions: at most 99 rows. -/
import Derived.Test.YtpfhogbkbodfjabRefLed
import Derived.Test.YtpfhogbkbodfjabMapIter
namespace Go.Proofs.Ytpfhogbkbodfjab
open Go.RowKit
set_option linter.unusedVariables false
set_option linter.unusedSimpArgs false
namespace RefLed
open Led
/-- A slice that grew by one row, out of a copy. -/
theorem foot_new {w : World} {B p : Nat} {A : Option Addr} {n c : Nat} {e : TypeId} {cs : List Value} (h : w.ownsRow B e 3 (.slice A n c) n cs) : ∀ b, Foot p A b → b = p ∨ B ≤ b := by
  rintro b (rfl | hb)
  · exact .inl rfl
  · exact .inr (h.lt b ((own_same A _ _ _ _).trans hb)).1

set_option maxRecDepth 100000 in
set_option maxHeartbeats 2000000 in
theorem write_earn_over (p : Nat) (A : Option Addr) (c : Nat) (xs : List LRow) (t : Int) (n : ByteArray) (v : Int) (w : World) (hl : xs.length ≤ 99) (h : At w p A c xs) (X : Led.Good xs) (hn : n.size ≤ maxLen) (ht : 0 ≤ t ∧ t ≤ 9223372036854775807) (hv : 0 ≤ v ∧ v ≤ 9223372036854775807) (hlate : late xs t = false) (hov :  4611686018427387904 - earn xs < v) :
    Calls Try.prog 55 #[.pointer (some ⟨p, 0, none⟩), .int .i64 t, .string n, .int .i64 v, .bool true] w fun e w' => e = .returned (.int .i64 8) ∧ Keeps (fun _ => False) w w' := by
  obtain ⟨i0, hi0, hz0, hz1, hz2⟩ := info_parts infoR
  obtain ⟨ht0, ht1⟩ := ht
  obtain ⟨hv0, hv1⟩ := hv
  have c0 := h.B.cellAt (i := 0) rfl
  have hI : Is w p (Foot p A) xs := ⟨A, c, h, rfl, X⟩
  have e0 := earn_nn xs
  have e1 := X.e
  have l0 := loss_nn xs
  have l1 := X.l
  have hl2 : xs.length ≤ 100 := by omega
  have hgl := h.lt
  have HGL := Lib.hid hgl
  clear hgl
  rcases eq_nil_or_snoc xs with hx | ⟨ys, r, hx⟩
  · have hn0 : xs.length = 0 := by rw [hx]; rfl
    have HX := Lib.hid hx
    have hd : decide (0 < xs.length) = false := by rw [hn0]; rfl
    rw [hn0] at c0
    clear hlate hn0 hd hx
    go_enter Try.func55, Try.ntmps55
    go_wp2_with fail
    go_quiet (fail)
    generalize hwd : w.drewN _ = wd
    have Kd : Keeps (fun _ => False) w wd := by rw [← hwd]; exact (Keeps.refl _ _).drewN _
    clear hwd
    go_wp2_with fail
    refine (sum_any p (Foot p A) xs ⟨#[]⟩ true _ hl2 (hI.stay Kd)).mono ?_
    rintro e w1 ⟨rfl, k1⟩
    rw [show sE true xs ⟨#[]⟩ = earn xs from rfl, show sL true xs ⟨#[]⟩ = loss xs from rfl]
    have K1 := Kd.trans k1 (fun _ _ h => h)
    have H1 := h.stay K1
    have b0 := H1.B.cellAt (i := 0) rfl
    clear k1 Kd c0
    go_wp2_with fail
    go_ret
    exact ⟨rfl, K1⟩
  · obtain ⟨g, off, hA, d0, _, _⟩ := h.cell (i := ys.length) (r := r) (by rw [hx]; simp)
    subst hA
    have hl1 : t < r.t → False := by
      intro hc
      rw [hx, late_snoc] at hlate
      have := of_decide_eq_false hlate
      exact this hc
    have hd4 : decide (t < r.t) = false := decide_eq_false hl1
    obtain ⟨N, hN⟩ : ∃ N, N = xs.length := ⟨_, rfl⟩
    rw [← hN] at c0
    have hN1 : N = ys.length + 1 := by rw [hN, hx]; simp
    have hw : IntKind.i64.wrap ((N : Int) - 1) = (ys.length : Int) := by rw [IntWalk.i64_in _ (by omega)]; omega
    have i0' : (0 : Int) ≤ (ys.length : Int) := by omega
    have i1 : (ys.length : Int) < (N : Int) := by omega
    have i3 : 0 < N := by omega
    have hd : decide (0 < N) = true := by simpa using i3
    have HN := Lib.hid hN
    clear hN hN1 hlate hl1 hx
    generalize ys.length = k at *
    go_enter Try.func55, Try.ntmps55
    go_wp2_with fail
    go_quiet (fail)
    clear hw hd4 hd
    generalize hwd : w.drewN _ = wd
    have Kd : Keeps (fun _ => False) w wd := by rw [← hwd]; exact (Keeps.refl _ _).drewN _
    clear hwd
    go_wp2_with fail
    refine (sum_any p (Foot p (some ⟨g, off, none⟩)) xs ⟨#[]⟩ true _ hl2 (hI.stay Kd)).mono ?_
    rintro e w1 ⟨rfl, k1⟩
    rw [show sE true xs ⟨#[]⟩ = earn xs from rfl, show sL true xs ⟨#[]⟩ = loss xs from rfl]
    have K1 := Kd.trans k1 (fun _ _ h => h)
    have H1 := h.stay K1
    have b0 := H1.B.cellAt (i := 0) rfl
    clear k1 Kd c0
    go_wp2_with fail
    go_ret
    exact ⟨rfl, K1⟩

set_option maxRecDepth 100000 in
set_option maxHeartbeats 2000000 in
theorem write_earn_ok (p : Nat) (A : Option Addr) (c : Nat) (xs : List LRow) (t : Int) (n : ByteArray) (v : Int) (w : World) (hl : xs.length ≤ 99) (h : At w p A c xs) (X : Led.Good xs) (hn : n.size ≤ maxLen) (ht : 0 ≤ t ∧ t ≤ 9223372036854775807) (hv : 0 ≤ v ∧ v ≤ 9223372036854775807) (hlate : late xs t = false) (hov : ¬ 4611686018427387904 - earn xs < v) :
    Calls Try.prog 55 #[.pointer (some ⟨p, 0, none⟩), .int .i64 t, .string n, .int .i64 v, .bool true] w fun e w' => e = .returned (.int .i64 0) ∧ (∃ A' c', At w' p A' c' (xs ++ [⟨t, n, v⟩]) ∧ ∀ b, Foot p A' b → Foot p A b ∨ w.heap.size ≤ b) ∧ Keeps (Foot p A) w w' := by
  obtain ⟨i0, hi0, hz0, hz1, hz2⟩ := info_parts infoR
  obtain ⟨ht0, ht1⟩ := ht
  obtain ⟨hv0, hv1⟩ := hv
  have c0 := h.B.cellAt (i := 0) rfl
  have hI : Is w p (Foot p A) xs := ⟨A, c, h, rfl, X⟩
  have e0 := earn_nn xs
  have e1 := X.e
  have l0 := loss_nn xs
  have l1 := X.l
  have hl2 : xs.length ≤ 100 := by omega
  have hgl := h.lt
  have HGL := Lib.hid hgl
  clear hgl
  rcases eq_nil_or_snoc xs with hx | ⟨ys, r, hx⟩
  · have hn0 : xs.length = 0 := by rw [hx]; rfl
    have HX := Lib.hid hx
    have hd : decide (0 < xs.length) = false := by rw [hn0]; rfl
    rw [hn0] at c0
    clear hlate hn0 hd hx
    go_enter Try.func55, Try.ntmps55
    go_wp2_with fail
    go_quiet (fail)
    generalize hwd : w.drewN _ = wd
    have Kd : Keeps (fun _ => False) w wd := by rw [← hwd]; exact (Keeps.refl _ _).drewN _
    clear hwd
    go_wp2_with fail
    refine (sum_any p (Foot p A) xs ⟨#[]⟩ true _ hl2 (hI.stay Kd)).mono ?_
    rintro e w1 ⟨rfl, k1⟩
    rw [show sE true xs ⟨#[]⟩ = earn xs from rfl, show sL true xs ⟨#[]⟩ = loss xs from rfl]
    have K1 := Kd.trans k1 (fun _ _ h => h)
    have H1 := h.stay K1
    have b0 := H1.B.cellAt (i := 0) rfl
    clear k1 Kd c0
    have b1 : (w1.alloc (.cells #[] 96)).cell? ⟨p, 0, none⟩ = some (.slice A xs.length c) := (H1.B.alloc _).cellAt (i := 0) rfl
    have z1 := K1.size
    have hpl := H1.B.lt
    have hpw := h.B.lt
    clear hI
    go_wp2_with (first | (at_builtin; refine wpList_append_has rfl (.tmp 69) (.tmp 73) 89 rfl i0 _ 32 Try.underlying89 hi0 hz0 hz1 hz2 rfl (by omega) rfl (own_empty w1 w1.heap.size 96 3 (Nat.le_refl _)) A xs.length c (xs.flatMap cf) rfl (H1.G.kept ((Keeps.refl (fun _ => False) _).alloc _) (fun _ _ _ _ h => h)) (cells_one _) (by unfold maxLen; omega) (by omega) (by simp) ?_; intro v2 w2 own2 g2 at2; have K2 : Keeps (fun _ => False) w w2 := keeps_grown (K1.alloc _) g2 (fun g h => .inr (Nat.le_trans z1 (Nat.le_of_eq (slice_block h)))); have z2 := K2.size; have z3 := (keeps_grown (S := fun _ => False) ((Keeps.refl _ w1).alloc (.cells #[] 96)) g2 (fun g h => .inr (Nat.le_of_eq (slice_block h)))).size; simp only [Nat.zero_add, List.nil_append] at own2; obtain ⟨A2, c2, hv2⟩ := own_shape own2; subst hv2; clear g2 at2) | (at_builtin; refine wpList_append_has rfl (.tmp 74) (.tmp 79) 89 rfl i0 _ 32 Try.underlying89 hi0 hz0 hz1 hz2 rfl (by omega) rfl (own2.alloc _) (some ⟨w2.heap.size, 0, none⟩) 1 1 (cf ⟨t, n, v⟩) rfl (Has.box w2 96 3 1 (cf ⟨t, n, v⟩) rfl (by unfold maxLen; omega)) (by have := cells_one [⟨t, n, v⟩]; simpa using this) (by unfold maxLen; omega) (by omega) (Nat.le_trans z3 (by simp)) ?_; intro v3 w3 own3 g3 at3; have K3 : Keeps (fun _ => False) w w3 := keeps_grown (K2.alloc _) g3 (fun g h => .inr (Nat.le_trans z1 (own2.lt g h).1)); obtain ⟨A3, c3, hv3⟩ := own_shape own3; subst hv3; have B3 := h.B.kept K3 (fun h => h); have b3 := B3.cellAt (i := 0) rfl; have f3 := B3.frozen; clear g3 at3))
    go_ret
    have hlen : (xs ++ [(⟨t, n, v⟩ : LRow)]).length = xs.length + 1 := by simp
    have hg3 : (Value.slice A3 (xs.length + 1) c3).ownBlock ≠ some p := fun e => by have := (own3.lt p e).1; omega
    refine ⟨rfl, ⟨A3, c3, ⟨?_, ?_⟩, fun b hb => (foot_new own3 b hb).elim (fun e => .inl (.inl e)) (fun h => .inr (Nat.le_trans z1 h))⟩, (K3.mono (fun _ _ h => h.elim)).setCell _ (.inl (.inl rfl)) _⟩
    · rw [hlen]; exact B3.set_ 0 _
    · rw [hlen, flat_snoc]
      exact (Has.of_own own3).kept ((keep1 p _).setCell _ (.inl rfl) _) (fun g _ _ hg e => hg3 (hg.trans (congrArg some e)))
  · obtain ⟨g, off, hA, d0, _, _⟩ := h.cell (i := ys.length) (r := r) (by rw [hx]; simp)
    subst hA
    have hl1 : t < r.t → False := by
      intro hc
      rw [hx, late_snoc] at hlate
      have := of_decide_eq_false hlate
      exact this hc
    have hd4 : decide (t < r.t) = false := decide_eq_false hl1
    obtain ⟨N, hN⟩ : ∃ N, N = xs.length := ⟨_, rfl⟩
    rw [← hN] at c0
    have hN1 : N = ys.length + 1 := by rw [hN, hx]; simp
    have hw : IntKind.i64.wrap ((N : Int) - 1) = (ys.length : Int) := by rw [IntWalk.i64_in _ (by omega)]; omega
    have i0' : (0 : Int) ≤ (ys.length : Int) := by omega
    have i1 : (ys.length : Int) < (N : Int) := by omega
    have i3 : 0 < N := by omega
    have hd : decide (0 < N) = true := by simpa using i3
    have HN := Lib.hid hN
    clear hN hN1 hlate hl1 hx
    generalize ys.length = k at *
    go_enter Try.func55, Try.ntmps55
    go_wp2_with fail
    go_quiet (fail)
    clear hw hd4 hd
    generalize hwd : w.drewN _ = wd
    have Kd : Keeps (fun _ => False) w wd := by rw [← hwd]; exact (Keeps.refl _ _).drewN _
    clear hwd
    go_wp2_with fail
    refine (sum_any p (Foot p (some ⟨g, off, none⟩)) xs ⟨#[]⟩ true _ hl2 (hI.stay Kd)).mono ?_
    rintro e w1 ⟨rfl, k1⟩
    rw [show sE true xs ⟨#[]⟩ = earn xs from rfl, show sL true xs ⟨#[]⟩ = loss xs from rfl]
    have K1 := Kd.trans k1 (fun _ _ h => h)
    have H1 := h.stay K1
    have b0 := H1.B.cellAt (i := 0) rfl
    clear k1 Kd c0
    have b1 : (w1.alloc (.cells #[] 96)).cell? ⟨p, 0, none⟩ = some (.slice (some ⟨g, off, none⟩) xs.length c) := (H1.B.alloc _).cellAt (i := 0) rfl
    have z1 := K1.size
    have hpl := H1.B.lt
    have hpw := h.B.lt
    clear hI
    go_wp2_with (first | (at_builtin; refine wpList_append_has rfl (.tmp 69) (.tmp 73) 89 rfl i0 _ 32 Try.underlying89 hi0 hz0 hz1 hz2 rfl (by omega) rfl (own_empty w1 w1.heap.size 96 3 (Nat.le_refl _)) (some ⟨g, off, none⟩) xs.length c (xs.flatMap cf) rfl (H1.G.kept ((Keeps.refl (fun _ => False) _).alloc _) (fun _ _ _ _ h => h)) (cells_one _) (by unfold maxLen; omega) (by omega) (by simp) ?_; intro v2 w2 own2 g2 at2; have K2 : Keeps (fun _ => False) w w2 := keeps_grown (K1.alloc _) g2 (fun g h => .inr (Nat.le_trans z1 (Nat.le_of_eq (slice_block h)))); have z2 := K2.size; have z3 := (keeps_grown (S := fun _ => False) ((Keeps.refl _ w1).alloc (.cells #[] 96)) g2 (fun g h => .inr (Nat.le_of_eq (slice_block h)))).size; simp only [Nat.zero_add, List.nil_append] at own2; obtain ⟨A2, c2, hv2⟩ := own_shape own2; subst hv2; clear g2 at2) | (at_builtin; refine wpList_append_has rfl (.tmp 74) (.tmp 79) 89 rfl i0 _ 32 Try.underlying89 hi0 hz0 hz1 hz2 rfl (by omega) rfl (own2.alloc _) (some ⟨w2.heap.size, 0, none⟩) 1 1 (cf ⟨t, n, v⟩) rfl (Has.box w2 96 3 1 (cf ⟨t, n, v⟩) rfl (by unfold maxLen; omega)) (by have := cells_one [⟨t, n, v⟩]; simpa using this) (by unfold maxLen; omega) (by omega) (Nat.le_trans z3 (by simp)) ?_; intro v3 w3 own3 g3 at3; have K3 : Keeps (fun _ => False) w w3 := keeps_grown (K2.alloc _) g3 (fun g h => .inr (Nat.le_trans z1 (own2.lt g h).1)); obtain ⟨A3, c3, hv3⟩ := own_shape own3; subst hv3; have B3 := h.B.kept K3 (fun h => h); have b3 := B3.cellAt (i := 0) rfl; have f3 := B3.frozen; clear g3 at3))
    go_ret
    have hlen : (xs ++ [(⟨t, n, v⟩ : LRow)]).length = xs.length + 1 := by simp
    have hg3 : (Value.slice A3 (xs.length + 1) c3).ownBlock ≠ some p := fun e => by have := (own3.lt p e).1; omega
    refine ⟨rfl, ⟨A3, c3, ⟨?_, ?_⟩, fun b hb => (foot_new own3 b hb).elim (fun e => .inl (.inl e)) (fun h => .inr (Nat.le_trans z1 h))⟩, (K3.mono (fun _ _ h => h.elim)).setCell _ (.inl (.inl rfl)) _⟩
    · rw [hlen]; exact B3.set_ 0 _
    · rw [hlen, flat_snoc]
      exact (Has.of_own own3).kept ((keep1 p _).setCell _ (.inl rfl) _) (fun g _ _ hg e => hg3 (hg.trans (congrArg some e)))

set_option maxRecDepth 100000 in
set_option maxHeartbeats 2000000 in
theorem write_lose_over (p : Nat) (A : Option Addr) (c : Nat) (xs : List LRow) (t : Int) (n : ByteArray) (v : Int) (w : World) (hl : xs.length ≤ 99) (h : At w p A c xs) (X : Led.Good xs) (hn : n.size ≤ maxLen) (ht : 0 ≤ t ∧ t ≤ 9223372036854775807) (hv : 0 ≤ v ∧ v ≤ 9223372036854775807) (hlate : late xs t = false) (hov :  4611686018427387904 - loss xs < v) :
    Calls Try.prog 55 #[.pointer (some ⟨p, 0, none⟩), .int .i64 t, .string n, .int .i64 v, .bool false] w fun e w' => e = .returned (.int .i64 8) ∧ Keeps (fun _ => False) w w' := by
  obtain ⟨i0, hi0, hz0, hz1, hz2⟩ := info_parts infoR
  obtain ⟨ht0, ht1⟩ := ht
  obtain ⟨hv0, hv1⟩ := hv
  have c0 := h.B.cellAt (i := 0) rfl
  have hI : Is w p (Foot p A) xs := ⟨A, c, h, rfl, X⟩
  have e0 := earn_nn xs
  have e1 := X.e
  have l0 := loss_nn xs
  have l1 := X.l
  have hl2 : xs.length ≤ 100 := by omega
  have hgl := h.lt
  have HGL := Lib.hid hgl
  clear hgl
  rcases eq_nil_or_snoc xs with hx | ⟨ys, r, hx⟩
  · have hn0 : xs.length = 0 := by rw [hx]; rfl
    have HX := Lib.hid hx
    have hd : decide (0 < xs.length) = false := by rw [hn0]; rfl
    rw [hn0] at c0
    clear hlate hn0 hd hx
    go_enter Try.func55, Try.ntmps55
    go_wp2_with fail
    go_quiet (fail)
    generalize hwd : w.drewN _ = wd
    have Kd : Keeps (fun _ => False) w wd := by rw [← hwd]; exact (Keeps.refl _ _).drewN _
    clear hwd
    go_wp2_with fail
    refine (sum_any p (Foot p A) xs ⟨#[]⟩ true _ hl2 (hI.stay Kd)).mono ?_
    rintro e w1 ⟨rfl, k1⟩
    rw [show sE true xs ⟨#[]⟩ = earn xs from rfl, show sL true xs ⟨#[]⟩ = loss xs from rfl]
    have K1 := Kd.trans k1 (fun _ _ h => h)
    have H1 := h.stay K1
    have b0 := H1.B.cellAt (i := 0) rfl
    clear k1 Kd c0
    go_wp2_with fail
    go_ret
    exact ⟨rfl, K1⟩
  · obtain ⟨g, off, hA, d0, _, _⟩ := h.cell (i := ys.length) (r := r) (by rw [hx]; simp)
    subst hA
    have hl1 : t < r.t → False := by
      intro hc
      rw [hx, late_snoc] at hlate
      have := of_decide_eq_false hlate
      exact this hc
    have hd4 : decide (t < r.t) = false := decide_eq_false hl1
    obtain ⟨N, hN⟩ : ∃ N, N = xs.length := ⟨_, rfl⟩
    rw [← hN] at c0
    have hN1 : N = ys.length + 1 := by rw [hN, hx]; simp
    have hw : IntKind.i64.wrap ((N : Int) - 1) = (ys.length : Int) := by rw [IntWalk.i64_in _ (by omega)]; omega
    have i0' : (0 : Int) ≤ (ys.length : Int) := by omega
    have i1 : (ys.length : Int) < (N : Int) := by omega
    have i3 : 0 < N := by omega
    have hd : decide (0 < N) = true := by simpa using i3
    have HN := Lib.hid hN
    clear hN hN1 hlate hl1 hx
    generalize ys.length = k at *
    go_enter Try.func55, Try.ntmps55
    go_wp2_with fail
    go_quiet (fail)
    clear hw hd4 hd
    generalize hwd : w.drewN _ = wd
    have Kd : Keeps (fun _ => False) w wd := by rw [← hwd]; exact (Keeps.refl _ _).drewN _
    clear hwd
    go_wp2_with fail
    refine (sum_any p (Foot p (some ⟨g, off, none⟩)) xs ⟨#[]⟩ true _ hl2 (hI.stay Kd)).mono ?_
    rintro e w1 ⟨rfl, k1⟩
    rw [show sE true xs ⟨#[]⟩ = earn xs from rfl, show sL true xs ⟨#[]⟩ = loss xs from rfl]
    have K1 := Kd.trans k1 (fun _ _ h => h)
    have H1 := h.stay K1
    have b0 := H1.B.cellAt (i := 0) rfl
    clear k1 Kd c0
    go_wp2_with fail
    go_ret
    exact ⟨rfl, K1⟩

set_option maxRecDepth 100000 in
set_option maxHeartbeats 2000000 in
theorem write_lose_ok (p : Nat) (A : Option Addr) (c : Nat) (xs : List LRow) (t : Int) (n : ByteArray) (v : Int) (w : World) (hl : xs.length ≤ 99) (h : At w p A c xs) (X : Led.Good xs) (hn : n.size ≤ maxLen) (ht : 0 ≤ t ∧ t ≤ 9223372036854775807) (hv : 0 ≤ v ∧ v ≤ 9223372036854775807) (hlate : late xs t = false) (hov : ¬ 4611686018427387904 - loss xs < v) :
    Calls Try.prog 55 #[.pointer (some ⟨p, 0, none⟩), .int .i64 t, .string n, .int .i64 v, .bool false] w fun e w' => e = .returned (.int .i64 0) ∧ (∃ A' c', At w' p A' c' (xs ++ [⟨t, n, (-v)⟩]) ∧ ∀ b, Foot p A' b → Foot p A b ∨ w.heap.size ≤ b) ∧ Keeps (Foot p A) w w' := by
  obtain ⟨i0, hi0, hz0, hz1, hz2⟩ := info_parts infoR
  obtain ⟨ht0, ht1⟩ := ht
  obtain ⟨hv0, hv1⟩ := hv
  have c0 := h.B.cellAt (i := 0) rfl
  have hI : Is w p (Foot p A) xs := ⟨A, c, h, rfl, X⟩
  have e0 := earn_nn xs
  have e1 := X.e
  have l0 := loss_nn xs
  have l1 := X.l
  have hl2 : xs.length ≤ 100 := by omega
  have hgl := h.lt
  have HGL := Lib.hid hgl
  clear hgl
  rcases eq_nil_or_snoc xs with hx | ⟨ys, r, hx⟩
  · have hn0 : xs.length = 0 := by rw [hx]; rfl
    have HX := Lib.hid hx
    have hd : decide (0 < xs.length) = false := by rw [hn0]; rfl
    rw [hn0] at c0
    clear hlate hn0 hd hx
    go_enter Try.func55, Try.ntmps55
    go_wp2_with fail
    go_quiet (fail)
    generalize hwd : w.drewN _ = wd
    have Kd : Keeps (fun _ => False) w wd := by rw [← hwd]; exact (Keeps.refl _ _).drewN _
    clear hwd
    go_wp2_with fail
    refine (sum_any p (Foot p A) xs ⟨#[]⟩ true _ hl2 (hI.stay Kd)).mono ?_
    rintro e w1 ⟨rfl, k1⟩
    rw [show sE true xs ⟨#[]⟩ = earn xs from rfl, show sL true xs ⟨#[]⟩ = loss xs from rfl]
    have K1 := Kd.trans k1 (fun _ _ h => h)
    have H1 := h.stay K1
    have b0 := H1.B.cellAt (i := 0) rfl
    clear k1 Kd c0
    have b1 : (w1.alloc (.cells #[] 96)).cell? ⟨p, 0, none⟩ = some (.slice A xs.length c) := (H1.B.alloc _).cellAt (i := 0) rfl
    have z1 := K1.size
    have hpl := H1.B.lt
    have hpw := h.B.lt
    clear hI
    go_wp2_with (first | (at_builtin; refine wpList_append_has rfl (.tmp 69) (.tmp 73) 89 rfl i0 _ 32 Try.underlying89 hi0 hz0 hz1 hz2 rfl (by omega) rfl (own_empty w1 w1.heap.size 96 3 (Nat.le_refl _)) A xs.length c (xs.flatMap cf) rfl (H1.G.kept ((Keeps.refl (fun _ => False) _).alloc _) (fun _ _ _ _ h => h)) (cells_one _) (by unfold maxLen; omega) (by omega) (by simp) ?_; intro v2 w2 own2 g2 at2; have K2 : Keeps (fun _ => False) w w2 := keeps_grown (K1.alloc _) g2 (fun g h => .inr (Nat.le_trans z1 (Nat.le_of_eq (slice_block h)))); have z2 := K2.size; have z3 := (keeps_grown (S := fun _ => False) ((Keeps.refl _ w1).alloc (.cells #[] 96)) g2 (fun g h => .inr (Nat.le_of_eq (slice_block h)))).size; simp only [Nat.zero_add, List.nil_append] at own2; obtain ⟨A2, c2, hv2⟩ := own_shape own2; subst hv2; clear g2 at2) | (at_builtin; refine wpList_append_has rfl (.tmp 74) (.tmp 79) 89 rfl i0 _ 32 Try.underlying89 hi0 hz0 hz1 hz2 rfl (by omega) rfl (own2.alloc _) (some ⟨w2.heap.size, 0, none⟩) 1 1 (cf ⟨t, n, (-v)⟩) rfl (Has.box w2 96 3 1 (cf ⟨t, n, (-v)⟩) rfl (by unfold maxLen; omega)) (by have := cells_one [⟨t, n, (-v)⟩]; simpa using this) (by unfold maxLen; omega) (by omega) (Nat.le_trans z3 (by simp)) ?_; intro v3 w3 own3 g3 at3; have K3 : Keeps (fun _ => False) w w3 := keeps_grown (K2.alloc _) g3 (fun g h => .inr (Nat.le_trans z1 (own2.lt g h).1)); obtain ⟨A3, c3, hv3⟩ := own_shape own3; subst hv3; have B3 := h.B.kept K3 (fun h => h); have b3 := B3.cellAt (i := 0) rfl; have f3 := B3.frozen; clear g3 at3))
    go_ret
    have hlen : (xs ++ [(⟨t, n, (-v)⟩ : LRow)]).length = xs.length + 1 := by simp
    have hg3 : (Value.slice A3 (xs.length + 1) c3).ownBlock ≠ some p := fun e => by have := (own3.lt p e).1; omega
    refine ⟨rfl, ⟨A3, c3, ⟨?_, ?_⟩, fun b hb => (foot_new own3 b hb).elim (fun e => .inl (.inl e)) (fun h => .inr (Nat.le_trans z1 h))⟩, (K3.mono (fun _ _ h => h.elim)).setCell _ (.inl (.inl rfl)) _⟩
    · rw [hlen]; exact B3.set_ 0 _
    · rw [hlen, flat_snoc]
      exact (Has.of_own own3).kept ((keep1 p _).setCell _ (.inl rfl) _) (fun g _ _ hg e => hg3 (hg.trans (congrArg some e)))
  · obtain ⟨g, off, hA, d0, _, _⟩ := h.cell (i := ys.length) (r := r) (by rw [hx]; simp)
    subst hA
    have hl1 : t < r.t → False := by
      intro hc
      rw [hx, late_snoc] at hlate
      have := of_decide_eq_false hlate
      exact this hc
    have hd4 : decide (t < r.t) = false := decide_eq_false hl1
    obtain ⟨N, hN⟩ : ∃ N, N = xs.length := ⟨_, rfl⟩
    rw [← hN] at c0
    have hN1 : N = ys.length + 1 := by rw [hN, hx]; simp
    have hw : IntKind.i64.wrap ((N : Int) - 1) = (ys.length : Int) := by rw [IntWalk.i64_in _ (by omega)]; omega
    have i0' : (0 : Int) ≤ (ys.length : Int) := by omega
    have i1 : (ys.length : Int) < (N : Int) := by omega
    have i3 : 0 < N := by omega
    have hd : decide (0 < N) = true := by simpa using i3
    have HN := Lib.hid hN
    clear hN hN1 hlate hl1 hx
    generalize ys.length = k at *
    go_enter Try.func55, Try.ntmps55
    go_wp2_with fail
    go_quiet (fail)
    clear hw hd4 hd
    generalize hwd : w.drewN _ = wd
    have Kd : Keeps (fun _ => False) w wd := by rw [← hwd]; exact (Keeps.refl _ _).drewN _
    clear hwd
    go_wp2_with fail
    refine (sum_any p (Foot p (some ⟨g, off, none⟩)) xs ⟨#[]⟩ true _ hl2 (hI.stay Kd)).mono ?_
    rintro e w1 ⟨rfl, k1⟩
    rw [show sE true xs ⟨#[]⟩ = earn xs from rfl, show sL true xs ⟨#[]⟩ = loss xs from rfl]
    have K1 := Kd.trans k1 (fun _ _ h => h)
    have H1 := h.stay K1
    have b0 := H1.B.cellAt (i := 0) rfl
    clear k1 Kd c0
    have b1 : (w1.alloc (.cells #[] 96)).cell? ⟨p, 0, none⟩ = some (.slice (some ⟨g, off, none⟩) xs.length c) := (H1.B.alloc _).cellAt (i := 0) rfl
    have z1 := K1.size
    have hpl := H1.B.lt
    have hpw := h.B.lt
    clear hI
    go_wp2_with (first | (at_builtin; refine wpList_append_has rfl (.tmp 69) (.tmp 73) 89 rfl i0 _ 32 Try.underlying89 hi0 hz0 hz1 hz2 rfl (by omega) rfl (own_empty w1 w1.heap.size 96 3 (Nat.le_refl _)) (some ⟨g, off, none⟩) xs.length c (xs.flatMap cf) rfl (H1.G.kept ((Keeps.refl (fun _ => False) _).alloc _) (fun _ _ _ _ h => h)) (cells_one _) (by unfold maxLen; omega) (by omega) (by simp) ?_; intro v2 w2 own2 g2 at2; have K2 : Keeps (fun _ => False) w w2 := keeps_grown (K1.alloc _) g2 (fun g h => .inr (Nat.le_trans z1 (Nat.le_of_eq (slice_block h)))); have z2 := K2.size; have z3 := (keeps_grown (S := fun _ => False) ((Keeps.refl _ w1).alloc (.cells #[] 96)) g2 (fun g h => .inr (Nat.le_of_eq (slice_block h)))).size; simp only [Nat.zero_add, List.nil_append] at own2; obtain ⟨A2, c2, hv2⟩ := own_shape own2; subst hv2; clear g2 at2) | (at_builtin; refine wpList_append_has rfl (.tmp 74) (.tmp 79) 89 rfl i0 _ 32 Try.underlying89 hi0 hz0 hz1 hz2 rfl (by omega) rfl (own2.alloc _) (some ⟨w2.heap.size, 0, none⟩) 1 1 (cf ⟨t, n, (-v)⟩) rfl (Has.box w2 96 3 1 (cf ⟨t, n, (-v)⟩) rfl (by unfold maxLen; omega)) (by have := cells_one [⟨t, n, (-v)⟩]; simpa using this) (by unfold maxLen; omega) (by omega) (Nat.le_trans z3 (by simp)) ?_; intro v3 w3 own3 g3 at3; have K3 : Keeps (fun _ => False) w w3 := keeps_grown (K2.alloc _) g3 (fun g h => .inr (Nat.le_trans z1 (own2.lt g h).1)); obtain ⟨A3, c3, hv3⟩ := own_shape own3; subst hv3; have B3 := h.B.kept K3 (fun h => h); have b3 := B3.cellAt (i := 0) rfl; have f3 := B3.frozen; clear g3 at3))
    go_ret
    have hlen : (xs ++ [(⟨t, n, (-v)⟩ : LRow)]).length = xs.length + 1 := by simp
    have hg3 : (Value.slice A3 (xs.length + 1) c3).ownBlock ≠ some p := fun e => by have := (own3.lt p e).1; omega
    refine ⟨rfl, ⟨A3, c3, ⟨?_, ?_⟩, fun b hb => (foot_new own3 b hb).elim (fun e => .inl (.inl e)) (fun h => .inr (Nat.le_trans z1 h))⟩, (K3.mono (fun _ _ h => h.elim)).setCell _ (.inl (.inl rfl)) _⟩
    · rw [hlen]; exact B3.set_ 0 _
    · rw [hlen, flat_snoc]
      exact (Has.of_own own3).kept ((keep1 p _).setCell _ (.inl rfl) _) (fun g _ _ hg e => hg3 (hg.trans (congrArg some e)))

set_option maxHeartbeats 1000000 in
theorem write_bad (p : Nat) (t : Int) (n : ByteArray) (v : Int) (b : Bool) (w : World) (h1 : t < 0 ∨ v < 0) :
    Calls Try.prog 55 #[.pointer (some ⟨p, 0, none⟩), .int .i64 t, .string n, .int .i64 v, .bool b] w fun e w' => e = .returned (.int .i64 1) ∧ w = w' := by
  by_cases h2 : t < 0
  · clear h1
    go_enter Try.func55, Try.ntmps55
    go_wp2_with fail
    go_ret
    exact ⟨rfl, rfl⟩
  · have h3 : v < 0 := by omega
    clear h1
    go_enter Try.func55, Try.ntmps55
    go_wp2_with fail
    go_ret
    exact ⟨rfl, rfl⟩
set_option maxHeartbeats 1000000 in
theorem write_late (p : Nat) (A : Option Addr) (c : Nat) (ys : List LRow) (r : LRow) (t : Int) (n : ByteArray) (v : Int) (b : Bool) (w : World) (hl : ys.length ≤ 99) (h : At w p A c (ys ++ [r])) (h2 : 0 ≤ t) (h3 : 0 ≤ v) (h4 : t < r.t) :
    Calls Try.prog 55 #[.pointer (some ⟨p, 0, none⟩), .int .i64 t, .string n, .int .i64 v, .bool b] w fun e w' => e = .returned (.int .i64 10) ∧ Keeps (fun _ => False) w w' := by
  have K := Keeps.refl (fun _ => False) w
  have c0 := h.B.cellAt (i := 0) rfl
  obtain ⟨g, off, rfl, d0, _, _⟩ := h.cell (i := ys.length) (r := r) (by simp)
  have hd4 : decide (t < r.t) = true := by simpa using h4
  obtain ⟨N, hN⟩ : ∃ N, N = (ys ++ [r]).length := ⟨_, rfl⟩
  rw [← hN] at c0
  have hN1 : N = ys.length + 1 := by rw [hN]; simp
  have hw : IntKind.i64.wrap ((N : Int) - 1) = (ys.length : Int) := by rw [IntWalk.i64_in _ (by omega)]; omega
  have i0' : (0 : Int) ≤ (ys.length : Int) := by omega
  have i1 : (ys.length : Int) < (N : Int) := by omega
  have i3 : 0 < N := by omega
  have hd : decide (0 < N) = true := by simpa using i3
  clear hN hN1 h
  generalize ys.length = k at *
  go_enter Try.func55, Try.ntmps55
  go_wp2_with fail
  go_quiet (fail)
  clear hw
  go_wp2_with fail
  go_ret
  exact ⟨rfl, K.drewN _⟩
theorem write_any (p : Nat) (F : Nat → Prop) (xs : List LRow) (t : Int) (n : ByteArray) (v : Int) (b : Bool) (w : World) (hl : xs.length ≤ 99) (h : Is w p F xs) (ht : t ≤ 9223372036854775807) (hv : v ≤ 9223372036854775807) (hn : n.size ≤ maxLen) (r : Int) (ys : List LRow) (hs : add xs t n v b = (r, ys)) :
    Calls Try.prog 55 #[.pointer (some ⟨p, 0, none⟩), .int .i64 t, .string n, .int .i64 v, .bool b] w fun e w' => e = .returned (.int .i64 r) ∧ (∃ F', Is w' p F' ys ∧ ∀ q, F' q → F q ∨ w.heap.size ≤ q) ∧ Keeps F w w' := by
  have hgood := h
  obtain ⟨A, c, ha, rfl, X⟩ := h
  have hX : Led.Good ys := by have := X.add t n v b ht hn; rw [hs] at this; exact this
  unfold add at hs
  by_cases h1 : t < 0 ∨ v < 0
  · have hm : ∀ all, may xs t v all = 1 := fun all => by unfold may; rw [if_pos h1]
    rw [hm, if_neg (by decide)] at hs
    cases hs
    refine (write_bad p t n v b w h1).mono ?_
    rintro e w' ⟨he, rfl⟩
    exact ⟨he, ⟨_, hgood, fun q hq => .inl hq⟩, Keeps.refl _ _⟩
  · cases hlate : late xs t with
    | true =>
      have hm : ∀ all, may xs t v all = 10 := fun all => by unfold may; rw [if_neg h1, if_pos hlate]
      rw [hm, if_neg (by decide)] at hs
      cases hs
      rcases eq_nil_or_snoc xs with rfl | ⟨zs, r, rfl⟩
      · cases hlate
      · rw [late_snoc] at hlate
        refine (write_late p A c zs r t n v b w (by simp at hl; omega) ha (by omega) (by omega) (of_decide_eq_true hlate)).mono ?_
        rintro e w' ⟨he, k⟩
        exact ⟨he, ⟨_, hgood.stay k, fun q hq => .inl hq⟩, k.mono (fun _ _ h => h.elim)⟩
    | false =>
      have hm : ∀ all, may xs t v all = if 4611686018427387904 - all < v then 8 else 0 := fun all => by unfold may; rw [if_neg h1, if_neg (by rw [hlate]; decide)]
      rw [hm] at hs
      cases b
      · simp only [Bool.false_eq_true, if_false] at hs
        by_cases hov : 4611686018427387904 - loss xs < v
        · rw [if_pos hov, if_neg (by decide)] at hs
          cases hs
          refine (write_lose_over p A c xs t n v w hl ha X hn ⟨by omega, ht⟩ ⟨by omega, hv⟩ hlate hov).mono ?_
          rintro e w' ⟨he, k⟩
          exact ⟨he, ⟨_, hgood.stay k, fun q hq => .inl hq⟩, k.mono (fun _ _ h => h.elim)⟩
        · rw [if_neg hov, if_pos rfl] at hs
          cases hs
          refine (write_lose_ok p A c xs t n v w hl ha X hn ⟨by omega, ht⟩ ⟨by omega, hv⟩ hlate hov).mono ?_
          rintro e w' ⟨he, ⟨A', c', ha', hf⟩, k⟩
          exact ⟨he, ⟨_, ⟨A', c', ha', rfl, hX⟩, hf⟩, k⟩
      · simp only [if_true] at hs
        by_cases hov : 4611686018427387904 - earn xs < v
        · rw [if_pos hov, if_neg (by decide)] at hs
          cases hs
          refine (write_earn_over p A c xs t n v w hl ha X hn ⟨by omega, ht⟩ ⟨by omega, hv⟩ hlate hov).mono ?_
          rintro e w' ⟨he, k⟩
          exact ⟨he, ⟨_, hgood.stay k, fun q hq => .inl hq⟩, k.mono (fun _ _ h => h.elim)⟩
        · rw [if_neg hov, if_pos rfl] at hs
          cases hs
          refine (write_earn_ok p A c xs t n v w hl ha X hn ⟨by omega, ht⟩ ⟨by omega, hv⟩ hlate hov).mono ?_
          rintro e w' ⟨he, ⟨A', c', ha', hf⟩, k⟩
          exact ⟨he, ⟨_, ⟨A', c', ha', rfl, hX⟩, hf⟩, k⟩

end RefLed
namespace Led
set_option maxRecDepth 100000 in
set_option maxHeartbeats 1000000 in
theorem by_any (p : Nat) (F : Nat → Prop) (xs : List LRow) (n : ByteArray) (w : World) (h : Is w p F xs) :
    Calls Try.prog 52 #[.pointer (some ⟨p, 0, none⟩), .string n] w fun e w' => e = .returned (.tuple #[.int .i64 (earnOf xs n), .int .i64 (lossOf xs n)]) ∧ Keeps (fun _ => False) w w' := by
  obtain ⟨m, A, c, l, ha, rfl⟩ := h
  have c3 := ha.B.cellAt (i := 3) rfl
  have K := Keeps.refl (fun _ => False) w
  have hlk := ha.M.lookup (T := 130) (key_string Try.underlying9) Try.underlying130 (zeroB _) n false
  have hV := ha.V n
  have hlk' : (Instr.lookup 130 (.map (some m)) (.string n) false).run Try.prog w = .ok (.agg #[.int .i64 (earnOf xs n), .int .i64 (lossOf xs n)]) w := by
    refine hlk.trans ?_
    rw [if_neg (by decide), hV]
  clear hlk hV ha
  generalize earnOf xs n = E at *
  generalize lossOf xs n = L at *
  go_enter Try.func52, Try.ntmps52
  go_wp2_with fail
  have Q := Blk.new w 133 [.int .i64 E, .int .i64 L]
  have K1 := K.alloc (.cells #[.int .i64 E, .int .i64 L] 133)
  have q0 : (w.alloc (.cells #[.int .i64 E, .int .i64 L] 133)).cell? ⟨w.heap.size, 0, none⟩ = some (.int .i64 E) := Q.cellAt (i := 0) rfl
  have q1 : (w.alloc (.cells #[.int .i64 E, .int .i64 L] 133)).cell? ⟨w.heap.size, 1, none⟩ = some (.int .i64 L) := Q.cellAt (i := 1) rfl
  clear Q hlk' c3
  generalize w.alloc (.cells #[.int .i64 E, .int .i64 L] 133) = w1 at *
  go_quiet (fail)
  go_wp2_with fail
  go_ret2
  exact ⟨rfl, K1.drewN _⟩
theorem look_mem {l : List (ByteArray × Value)} (hn : (l.map (·.1)).Nodup) {q : ByteArray × Value} (hq : q ∈ l) : look l q.1 = some q.2 := by
  induction l with
  | nil => cases hq
  | cons a l ih =>
    simp only [List.map_cons, List.nodup_cons] at hn
    rcases List.mem_cons.1 hq with h | h
    · subst h; simp [look, List.find?_cons]
    · have hne : a.1 ≠ q.1 := fun e => hn.1 (List.mem_map.2 ⟨q, h, e.symm⟩)
      have := ih hn.2 h
      simp [look, List.find?_cons, hne] at this ⊢
      exact this
set_option maxRecDepth 100000 in
set_option maxHeartbeats 4000000 in
theorem best_any (p : Nat) (F : Nat → Prop) (xs : List LRow) (w : World) (h : Is w p F xs) :
    Calls Try.prog 49 #[.pointer (some ⟨p, 0, none⟩)] w fun e w' => ∃ s m, e = .returned (.tuple #[.string s, .bool (decide (0 < m))]) ∧ Top xs s m ∧ Keeps (fun _ => False) w w' := by
  obtain ⟨m, A, c, l, ha, rfl⟩ := h
  have c3 := ha.B.cellAt (i := 3) rfl
  have hM := ha.M
  have hnd : (l.map (·.1)).Nodup := by obtain ⟨_, _, _, _, hn, _⟩ := hM; exact hn
  have hval : ∀ q ∈ l, q.2 = .agg #[.int .i64 (earnOf xs q.1), .int .i64 (lossOf xs q.1)] := by
    intro q hq
    have h1 := ha.V q.1
    rw [look_mem hnd hq] at h1
    exact h1
  have hkey : ∀ n, 0 < earnOf xs n → ∃ q ∈ l, q.1 = n := by
    intro n hn
    have h1 := ha.V n
    cases hl : look l n with
    | none =>
      rw [hl] at h1
      simp only [Option.getD_none] at h1
      injection h1 with h1
      have h2 := congrArg (fun a : Array Value => a.toList) h1
      simp at h2
      omega
    | some v =>
      have hnn : ¬ (n ∉ l.map (·.1)) := fun hc => by rw [look_none.2 hc] at hl; cases hl
      have := Classical.not_not.1 hnn
      obtain ⟨q, hq, he⟩ := List.mem_map.1 this
      exact ⟨q, hq, he⟩
  have HV := Lib.hid hval
  have HKY := Lib.hid hkey
  clear hval hkey hnd ha
  go_enter Try.func49, Try.ntmps49
  go_wp2_with (at_range; refine wpList_range_is hM Try.underlying130 rfl (.tmp 11) rfl rfl ?_; intro w0 I0 k0 s0)
  go_frame
  have hr0 : w.heap.size ≤ w.heap.size := Nat.le_refl _
  generalize hrr : w.heap.size = r at I0 s0 ⊢
  have hrr' : w.heap.size ≤ r := Nat.le_of_eq hrr
  clear hr0 hrr s0 hM c3
  go_loopw [4, 5] (fun s b wr => ∃ (done : List ByteArray) (cnt : Nat) (bs : ByteArray) (mm : Int), s = .string bs ∧ b = .int .i64 mm ∧ Iter Value.string wr m r l done cnt ∧ Hid (Led.Best (earnOf xs) (fun x => x ∈ done) bs mm) ∧ Keeps (fun _ => False) w wr) (fun _ _ wr => wr.rangeLeft m r)
  case atStart => exact ⟨[], _, ⟨#[]⟩, 0, rfl, rfl, I0, Lib.hid (Best.start _ _ (fun x hx => nomatch hx)), k0⟩
  case round =>
    clear I0 k0
    obtain ⟨done, cnt, bs, mm, rfl, rfl, I, HB, HK⟩ := hrel
    go_wp2_with (at_next; refine wpList_next_is I (fun a b h => by injection h) rfl (.tmp 12) rfl rfl ?_ ?_)
    · intro hdone
      have hT : Top xs bs mm := HB.out.grow (fun x _ hp => by
        obtain ⟨⟨qn, qv⟩, hq, rfl⟩ := HKY.out x hp
        exact hdone qn qv hq)
      have HT := Lib.hid hT
      clear hT hdone
      go_wp2_with fail
      go_ret2
      exact ⟨bs, mm, rfl, HT.out, HK⟩
    · intro kn kv w1 cnt1 hq hnd I1 hlt k1 hz hen
      have HK1 := HK.trans k1 (fun i hi hr => by omega)
      have hqv := HV.out _ hq
      dsimp only at hqv
      subst hqv
      have hup : ¬ (mm < earnOf xs kn ∨ (earnOf xs kn = mm ∧ 0 < mm ∧ lt kn bs = true)) → Hid (Led.Best (earnOf xs) (fun x => x ∈ kn :: done) bs mm) := fun h => Lib.hid (HB.out.stay (fun x hx => (List.mem_cons.1 hx).elim (fun e => .inr e) .inl) h)
      have hst : (mm < earnOf xs kn ∨ (earnOf xs kn = mm ∧ 0 < mm ∧ lt kn bs = true)) → Hid (Led.Best (earnOf xs) (fun x => x ∈ kn :: done) kn (earnOf xs kn)) := fun h => Lib.hid (HB.out.up (fun x hx => (List.mem_cons.1 hx).elim (fun e => .inr e) .inl) h)
      unfold lt at hup hst
      have HUP := Lib.hid hup
      have HST := Lib.hid hst
      have hm0 := HB.out.nn
      have hE0 := earnOf_nn xs kn
      have HCNT := Lib.hid hlt
      have HLE := Lib.hid I.left_eq
      clear hup hst hq hnd hlt HK k1 I hz
      generalize earnOf xs kn = E at *
      generalize lossOf xs kn = L at *
      have I2 := I1.kept ((Keeps.refl (fun _ => False) w1).alloc (.cells #[.int .i64 E, .int .i64 L] 133)) (fun h => h) (fun h => h)
      have HK2 := HK1.alloc (.cells #[.int .i64 E, .int .i64 L] 133)
      have Q := Blk.new w1 133 [.int .i64 E, .int .i64 L]
      have q0 : (w1.alloc (.cells #[.int .i64 E, .int .i64 L] 133)).cell? ⟨w1.heap.size, 0, none⟩ = some (.int .i64 E) := Q.cellAt (i := 0) rfl
      have HL2 := Lib.hid I2.left_eq
      clear I1 HK1 Q
      by_cases h1 : mm < E
      · have HX := HST.out (.inl h1)
        go_wp2_with fail
        go_quiet (fail)
        go_wp2_with fail
        go_roundw
        case rel => exact ⟨_, _, kn, E, rfl, rfl, I2.kept ((Keeps.refl (fun _ => False) _).drewN _) (fun h => h) (fun h => h), HX, HK2.drewN _⟩
        case measure => rw [HLE.out, (I2.kept ((Keeps.refl (fun _ => False) _).drewN _) (fun h => h) (fun h => h)).left_eq]; exact HCNT.out
      · by_cases h2 : E = mm
        · by_cases h3 : 0 < mm
          · have heq : (E == mm) = true := by simpa using h2
            cases h4 : Op.bytesLess kn.toList bs.toList with
            | true =>
              have HX := HST.out (.inr ⟨h2, h3, h4⟩)
              clear h2
              go_wp2_with fail
              go_quiet (fail)
              go_wp2_with fail
              go_roundw
              case rel => exact ⟨_, _, kn, E, rfl, rfl, I2.kept ((Keeps.refl (fun _ => False) _).drewN _) (fun h => h) (fun h => h), HX, HK2.drewN _⟩
              case measure => rw [HLE.out, (I2.kept ((Keeps.refl (fun _ => False) _).drewN _) (fun h => h) (fun h => h)).left_eq]; exact HCNT.out
            | false =>
              have HX := HUP.out (by rw [h4]; intro hc; rcases hc with hc | hc; exact h1 hc; exact nomatch hc.2.2)
              clear h2
              go_wp2_with fail
              go_roundw
              case rel => exact ⟨_, _, bs, mm, rfl, rfl, I2, HX, HK2⟩
              case measure => rw [HLE.out, HL2.out]; exact HCNT.out
          · have heq : (E == mm) = true := by simpa using h2
            have HX := HUP.out (by intro hc; rcases hc with hc | hc; exact h1 hc; exact h3 hc.2.1)
            clear h2
            go_wp2_with fail
            go_roundw
            case rel => exact ⟨_, _, bs, mm, rfl, rfl, I2, HX, HK2⟩
            case measure => rw [HLE.out, HL2.out]; exact HCNT.out
        · have heq : (E == mm) = false := by simpa using h2
          have HX := HUP.out (by intro hc; rcases hc with hc | hc; exact h1 hc; exact h2 hc.1)
          clear h2
          go_wp2_with fail
          go_roundw
          case rel => exact ⟨_, _, bs, mm, rfl, rfl, I2, HX, HK2⟩
          case measure => rw [HLE.out, HL2.out]; exact HCNT.out

end Led
end Go.Proofs.Ytpfhogbkbodfjab
