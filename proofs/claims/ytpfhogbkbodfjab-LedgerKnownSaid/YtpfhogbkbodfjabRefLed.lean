/- What each function of the reference's Ledger does to one of them; conditions: at most 100 rows. -/
import Derived.Test.YtpfhogbkbodfjabLedger2
namespace Go.Proofs.Ytpfhogbkbodfjab
open Go.RowKit
set_option linter.unusedVariables false
set_option linter.unusedSimpArgs false
namespace RefLed
open Led
theorem infoR : (Try.prog.info? 96).map (fun i => (i.zero, i.size, i.bytes)) = some (some (.agg #[.int .i64 0, .string ⟨#[]⟩, .int .i64 0]), 3, 32) := by kernel_rfl
/-- The reference's Ledger at block p, its rows the slice A. -/
structure At (w : World) (p : Nat) (A : Option Addr) (c : Nat) (xs : List LRow) : Prop where
  B : Blk w p 91 [.slice A xs.length c]
  G : Has w 96 3 (.slice A xs.length c) xs.length (xs.flatMap cf)
def Foot (p : Nat) (A : Option Addr) (b : Nat) : Prop := b = p ∨ (Value.slice A 0 0).ownBlock = some b
section
variable {w w' : World} {p c : Nat} {A : Option Addr} {xs : List LRow} {S : Nat → Prop}
theorem At.kept (h : At w p A c xs) (k : Keeps S w w') (hS : ∀ b, Foot p A b → ¬ S b) : At w' p A c xs :=
  ⟨h.B.kept k (hS p (.inl rfl)), h.G.kept k (fun g _ _ hg => hS g (.inr ((own_same A _ _ _ _).trans hg)))⟩
theorem At.stay (h : At w p A c xs) (k : Keeps (fun _ => False) w w') : At w' p A c xs := h.kept k fun _ _ h => h
theorem At.lt (h : At w p A c xs) : ∀ b, Foot p A b → b < w.heap.size := by
  rintro b (rfl | hb)
  · exact h.B.lt
  · rcases h.G.2 with ⟨h0, _⟩ | ⟨g, off, cap, cur, hv, _, _, hh, _⟩
    · injection h0 with hA
      subst hA
      cases hb
    · injection hv with hA
      subst hA
      cases hb
      exact (Array.getElem?_eq_some_iff.1 hh).1
theorem At.cell (h : At w p A c xs) {i : Nat} {r : LRow} (hr : xs[i]? = some r) :
    ∃ g off, A = some ⟨g, off, none⟩ ∧ w.cell? ⟨g, off + i * 3, Option.none⟩ = some (.int .i64 r.t) ∧ w.cell? ⟨g, off + i * 3 + 1, Option.none⟩ = some (.string r.n) ∧ w.cell? ⟨g, off + i * 3 + 2, Option.none⟩ = some (.int .i64 r.v) := by
  have hi := (List.getElem?_eq_some_iff.1 hr).1
  obtain ⟨g, off, hA, hc⟩ := h.G.at_ (by omega)
  exact ⟨g, off, hA, hc _ _ (flat_at cf_len hr (j := 0) rfl), hc _ _ (flat_at cf_len hr (j := 1) rfl), hc _ _ (flat_at cf_len hr (j := 2) rfl)⟩
end
/-- The reference's Ledger at block p, holding the blocks F. -/
def Is (w : World) (p : Nat) (F : Nat → Prop) (xs : List LRow) : Prop := ∃ A c, At w p A c xs ∧ F = Foot p A ∧ Led.Good xs
section
variable {w w' : World} {p : Nat} {F : Nat → Prop} {xs : List LRow} {S : Nat → Prop}
theorem Is.kept (h : Is w p F xs) (k : Keeps S w w') (hS : ∀ b, F b → ¬ S b) : Is w' p F xs := by
  obtain ⟨A, c, ha, rfl, hg⟩ := h
  exact ⟨A, c, ha.kept k hS, rfl, hg⟩
theorem Is.stay (h : Is w p F xs) (k : Keeps (fun _ => False) w w') : Is w' p F xs := h.kept k fun _ _ h => h
theorem Is.lt (h : Is w p F xs) : ∀ b, F b → b < w.heap.size := by
  obtain ⟨A, c, ha, rfl, _⟩ := h
  exact ha.lt
end
/-- What 'sum' adds up: of all, or of one name. -/
def sE (b : Bool) (xs : List LRow) (n : ByteArray) : Int := if b then earn xs else earnOf xs n
def sL (b : Bool) (xs : List LRow) (n : ByteArray) : Int := if b then loss xs else lossOf xs n
def hit (b : Bool) (r : LRow) (n : ByteArray) : Bool := b || decide (r.n = n)
theorem sE_next {xs : List LRow} {k : Nat} {r : LRow} (h : xs[k]? = some r) (b : Bool) (n : ByteArray) : sE b (xs.take (k + 1)) n = sE b (xs.take k) n + if hit b r n = true then pos r.v else 0 := by
  unfold sE hit
  cases b
  · simp only [Bool.false_eq_true, if_false, Bool.false_or, decide_eq_true_eq]; exact sumBy_next h
  · simp only [if_true, Bool.true_or]; exact sumBy_next h
theorem sL_next {xs : List LRow} {k : Nat} {r : LRow} (h : xs[k]? = some r) (b : Bool) (n : ByteArray) : sL b (xs.take (k + 1)) n = sL b (xs.take k) n + if hit b r n = true then neg r.v else 0 := by
  unfold sL hit
  cases b
  · simp only [Bool.false_eq_true, if_false, Bool.false_or, decide_eq_true_eq]; exact sumBy_next h
  · simp only [if_true, Bool.true_or]; exact sumBy_next h
theorem sE_bd (b : Bool) (xs : List LRow) (n : ByteArray) : 0 ≤ sE b xs n ∧ sE b xs n ≤ earn xs := by
  unfold sE
  cases b
  · exact ⟨earnOf_nn _ _, earnOf_le _ _⟩
  · exact ⟨earn_nn _, Int.le_refl _⟩
theorem sL_bd (b : Bool) (xs : List LRow) (n : ByteArray) : 0 ≤ sL b xs n ∧ sL b xs n ≤ loss xs := by
  unfold sL
  cases b
  · exact ⟨lossOf_nn _ _, lossOf_le _ _⟩
  · exact ⟨loss_nn _, Int.le_refl _⟩

set_option maxRecDepth 100000 in
set_option maxHeartbeats 2000000 in
theorem sum_any (p : Nat) (F : Nat → Prop) (xs : List LRow) (n : ByteArray) (b : Bool) (w : World) (hl : xs.length ≤ 100) (h : Is w p F xs) :
    Calls Try.prog 80 #[.pointer (some ⟨p, 0, none⟩), .string n, .bool b] w fun e w' => e = .returned (.tuple #[.int .i64 (sE b xs n), .int .i64 (sL b xs n)]) ∧ Keeps (fun _ => False) w w' := by
  obtain ⟨A, c, ha, rfl, X⟩ := h
  have hc0 := ha.B.cellAt (i := 0) rfl
  have X := Lib.hid X
  obtain ⟨m, hm⟩ : ∃ m, m = xs.length := ⟨_, rfl⟩
  rw [← hm] at hc0 hl
  have HN := Lib.hid hm
  clear hm
  have K := Keeps.refl (fun _ => False) w
  have hE0 : sE b (xs.take 0) n = 0 := by unfold sE; cases b <;> rfl
  have hL0 : sL b (xs.take 0) n = 0 := by unfold sL; cases b <;> rfl
  have HE0 := Lib.hid hE0
  have HL0 := Lib.hid hL0
  clear hE0 hL0
  go_enter Try.func80, Try.ntmps80
  go_wp2_with fail
  go_loopw [8, 9, 10] (fun e l i wr => ∃ j : Nat, j ≤ m ∧ i = .int .i64 j ∧ e = .int .i64 (sE b (xs.take j) n) ∧ l = .int .i64 (sL b (xs.take j) n) ∧ Keeps (fun _ => False) w wr) (fun _ _ i _ => m - (intOf i).toNat)
  case atStart => exact ⟨0, by omega, rfl, by rw [HE0.out], by rw [HL0.out], K⟩
  case round =>
    clear K hc0
    obtain ⟨j, hj, rfl, rfl, rfl, HK⟩ := hrel
    have c1 := (ha.stay HK).B.cellAt (i := 0) rfl
    rw [← HN.out] at c1
    by_cases hlt : j < m
    · obtain ⟨r, hr⟩ : ∃ r, xs[j]? = some r := ⟨_, List.getElem?_eq_getElem (by have := HN.out; omega)⟩
      obtain ⟨g, off, rfl, d0, d1, d2⟩ := (ha.stay HK).cell hr
      have e1 := sE_next hr b n
      have l1 := sL_next hr b n
      have be := (sE_bd b (xs.take (j + 1)) n).2
      have bl := (sL_bd b (xs.take (j + 1)) n).2
      have be0 := (sE_bd b (xs.take j) n).1
      have bl0 := (sL_bd b (xs.take j) n).1
      have b2 := earn_take xs (j + 1)
      have b3 := loss_take xs (j + 1)
      have b4 := X.out.e
      have b5 := X.out.l
      have be1 : sE b (xs.take (j + 1)) n ≤ 4611686018427387904 := by omega
      have bl1 : sL b (xs.take (j + 1)) n ≤ 4611686018427387904 := by omega
      rw [e1] at be1
      rw [l1] at bl1
      have HE := Lib.hid e1
      have HL := Lib.hid l1
      have hj0 : (0 : Int) ≤ (j : Int) := by omega
      have hj1 : (j : Int) < (m : Int) := by omega
      clear e1 l1 be bl b2 b3 b4 b5 hr
      generalize sE b (xs.take j) n = E at *
      generalize sL b (xs.take j) n = L at *
      cases hfit : hit b r n with
      | false =>
        rw [hfit] at be1 bl1 HE HL
        simp only [Bool.false_eq_true, if_false, Int.add_zero] at be1 bl1
        have HE' : Hid (sE b (xs.take (j + 1)) n = E) := Lib.hid (by rw [HE.out]; simp)
        have HL' : Hid (sL b (xs.take (j + 1)) n = L) := Lib.hid (by rw [HL.out]; simp)
        clear HE HL
        have hb : b = false := by cases b; rfl; simp [hit] at hfit
        subst hb
        have hne : (r.n.toList == n.toList) = false := by rw [beq_dec]; simpa [hit] using hfit
        clear hfit
        go_wp2_with fail
        go_roundw
        case rel => exact ⟨j + 1, by omega, by go_num, by rw [HE'.out], by rw [HL'.out], HK.alloc _⟩
        case measure => simp [intOf]; omega
      | true =>
        rw [hfit] at be1 bl1 HE HL
        simp only [if_true] at be1 bl1
        have HE' : Hid (sE b (xs.take (j + 1)) n = E + pos r.v) := Lib.hid (by rw [HE.out]; simp)
        have HL' : Hid (sL b (xs.take (j + 1)) n = L + neg r.v) := Lib.hid (by rw [HL.out]; simp)
        clear HE HL
        have hbn : b = true ∨ (b = false ∧ (r.n.toList == n.toList) = true) := by
          cases b
          · refine .inr ⟨rfl, ?_⟩
            rw [beq_dec]; simpa [hit] using hfit
          · exact .inl rfl
        clear hfit
        by_cases hv : 0 < r.v
        · have hp : pos r.v = r.v := by unfold pos; rw [if_pos hv]
          have hq : neg r.v = 0 := by unfold neg; rw [if_pos hv]
          rw [hp] at be1 HE'
          rw [hq] at bl1 HL'
          clear hp hq
          rcases hbn with rfl | ⟨rfl, heq⟩
          all_goals
            go_wp2_with fail
            go_roundw
            case rel => exact ⟨j + 1, by omega, by go_num, by rw [HE'.out], by rw [HL'.out, Int.add_zero], HK.alloc _⟩
            case measure => simp [intOf]; omega
        · have hp : pos r.v = 0 := by unfold pos; rw [if_neg hv]
          have hq : neg r.v = -r.v := by unfold neg; rw [if_neg hv]
          rw [hp] at be1 HE'
          rw [hq] at bl1 HL'
          clear hp hq
          rcases hbn with rfl | ⟨rfl, heq⟩
          all_goals
            go_wp2_with fail
            go_roundw
            case rel => exact ⟨j + 1, by omega, by go_num, by rw [HE'.out, Int.add_zero], by rw [HL'.out]; go_num, HK.alloc _⟩
            case measure => simp [intOf]; omega
    · have h1 : xs.take j = xs := List.take_of_length_le (by have := HN.out; omega)
      rw [h1]
      go_wp2_with fail
      go_ret2
      exact ⟨rfl, HK⟩

theorem earned_any (p : Nat) (F : Nat → Prop) (xs : List LRow) (w : World) (hl : xs.length ≤ 100) (h : Is w p F xs) :
    Calls Try.prog 59 #[.pointer (some ⟨p, 0, none⟩)] w fun e w' => e = .returned (.int .i64 (earn xs)) ∧ Keeps (fun _ => False) w w' := by
  go_enter Try.func59, Try.ntmps59
  go_wp2_with fail
  refine (sum_any p F xs ⟨#[]⟩ true _ hl h).mono ?_
  rintro e w1 ⟨rfl, k1⟩
  rw [show sE true xs ⟨#[]⟩ = earn xs from rfl, show sL true xs ⟨#[]⟩ = loss xs from rfl]
  go_wp2_with fail
  go_ret
  exact ⟨rfl, k1⟩

theorem lost_any (p : Nat) (F : Nat → Prop) (xs : List LRow) (w : World) (hl : xs.length ≤ 100) (h : Is w p F xs) :
    Calls Try.prog 61 #[.pointer (some ⟨p, 0, none⟩)] w fun e w' => e = .returned (.int .i64 (loss xs)) ∧ Keeps (fun _ => False) w w' := by
  go_enter Try.func61, Try.ntmps61
  go_wp2_with fail
  refine (sum_any p F xs ⟨#[]⟩ true _ hl h).mono ?_
  rintro e w1 ⟨rfl, k1⟩
  rw [show sE true xs ⟨#[]⟩ = earn xs from rfl, show sL true xs ⟨#[]⟩ = loss xs from rfl]
  go_wp2_with fail
  go_ret
  exact ⟨rfl, k1⟩

theorem by_any (p : Nat) (F : Nat → Prop) (xs : List LRow) (n : ByteArray) (w : World) (hl : xs.length ≤ 100) (h : Is w p F xs) :
    Calls Try.prog 56 #[.pointer (some ⟨p, 0, none⟩), .string n] w fun e w' => e = .returned (.tuple #[.int .i64 (earnOf xs n), .int .i64 (lossOf xs n)]) ∧ Keeps (fun _ => False) w w' := by
  go_enter Try.func56, Try.ntmps56
  go_wp2_with fail
  refine (sum_any p F xs n false _ hl h).mono ?_
  rintro e w1 ⟨rfl, k1⟩
  rw [show sE false xs n = earnOf xs n from rfl, show sL false xs n = lossOf xs n from rfl]
  go_wp2_with fail
  go_ret2
  exact ⟨rfl, k1⟩
set_option maxRecDepth 100000 in
set_option maxHeartbeats 1000000 in
theorem till_any (p : Nat) (F : Nat → Prop) (xs : List LRow) (t : Int) (w : World) (hl : xs.length ≤ 100) (h : Is w p F xs) :
    Calls Try.prog 62 #[.pointer (some ⟨p, 0, none⟩), .int .i64 t] w fun e w' => e = .returned (.int .i64 (till xs t)) ∧ Keeps (fun _ => False) w w' := by
  obtain ⟨A, c, ha, rfl, X⟩ := h
  have hc0 := ha.B.cellAt (i := 0) rfl
  have X := Lib.hid X
  obtain ⟨n, hn⟩ : ∃ n, n = xs.length := ⟨_, rfl⟩
  rw [← hn] at hc0 hl
  have HN := Lib.hid hn
  clear hn
  have K := Keeps.refl (fun _ => False) w
  go_enter Try.func62, Try.ntmps62
  go_wp2_with fail
  go_loopw [5, 6] (fun s i wr => ∃ j : Nat, j ≤ n ∧ i = .int .i64 j ∧ s = .int .i64 (till (xs.take j) t) ∧ Keeps (fun _ => False) w wr) (fun _ i _ => n - (intOf i).toNat)
  case atStart => exact ⟨0, by omega, rfl, rfl, K⟩
  case round =>
    clear hc0 K
    obtain ⟨j, hj, rfl, rfl, HK⟩ := hrel
    have c1 := (ha.stay HK).B.cellAt (i := 0) rfl
    rw [← HN.out] at c1
    by_cases hlt : j < n
    · obtain ⟨f, hf⟩ : ∃ f, xs[j]? = some f := ⟨_, List.getElem?_eq_getElem (by have := HN.out; omega)⟩
      obtain ⟨g, off, rfl, d0, d1, d2⟩ := (ha.stay HK).cell hf
      have b1 := till_bd (xs.take (j + 1)) t
      have b2 := earn_take xs (j + 1)
      have b3 := loss_take xs (j + 1)
      have b4 := X.out.e
      have b5 := X.out.l
      have hsn : till (xs.take (j + 1)) t = till (xs.take j) t + if f.t ≤ t then f.v else 0 := sumBy_next hf
      have bd : -4611686018427387904 ≤ till (xs.take (j + 1)) t ∧ till (xs.take (j + 1)) t ≤ 4611686018427387904 := by omega
      rw [hsn] at bd
      have HS := Lib.hid hsn
      have hj0 : (0 : Int) ≤ (j : Int) := by omega
      have hj1 : (j : Int) < (n : Int) := by omega
      clear b1 b2 b3 b4 b5 hsn hf
      by_cases ht : f.t ≤ t
      · rw [if_pos ht] at bd HS
        go_wp2_with fail
        go_roundw
        case rel => exact ⟨j + 1, by omega, by go_num, by rw [HS.out], HK⟩
        case measure => simp [intOf]; omega
      · rw [if_neg ht, Int.add_zero] at bd HS
        go_wp2_with fail
        go_roundw
        case rel => exact ⟨j + 1, by omega, by go_num, by rw [HS.out], HK⟩
        case measure => simp [intOf]; omega
    · go_wp2_with fail
      go_ret
      exact ⟨by rw [List.take_of_length_le (by have := HN.out; omega)]; rfl, HK⟩

set_option maxRecDepth 100000 in
set_option maxHeartbeats 4000000 in
theorem best_any (p : Nat) (F : Nat → Prop) (xs : List LRow) (w : World) (hl : xs.length ≤ 100) (h : Is w p F xs) :
    Calls Try.prog 57 #[.pointer (some ⟨p, 0, none⟩)] w fun e w' => ∃ s m, e = .returned (.tuple #[.string s, .bool (decide (0 < m))]) ∧ Top xs s m ∧ Keeps (fun _ => False) w w' := by
  obtain ⟨A, c, ha, hF, X⟩ := h
  have hc0 := ha.B.cellAt (i := 0) rfl
  have hl' : xs.length ≤ 100 := hl
  have X := Lib.hid X
  obtain ⟨n, hn⟩ : ∃ n, n = xs.length := ⟨_, rfl⟩
  rw [← hn] at hc0 hl
  have HN := Lib.hid hn
  have HF := Lib.hid hF
  clear hn hF
  have K := Keeps.refl (fun _ => False) w
  go_enter Try.func57, Try.ntmps57
  go_wp2_with fail
  go_loopw [4, 5, 6] (fun s m i wr => ∃ (j : Nat) (bs : ByteArray) (mm : Int), j ≤ n ∧ i = .int .i64 j ∧ s = .string bs ∧ m = .int .i64 mm ∧ Hid (Led.Best (earnOf xs) (fun x => ∃ r ∈ xs.take j, r.n = x) bs mm) ∧ Keeps (fun _ => False) w wr) (fun _ _ i _ => n - (intOf i).toNat)
  case atStart => exact ⟨0, ⟨#[]⟩, 0, by omega, rfl, rfl, rfl, Lib.hid (Best.start _ _ (fun x ⟨r, hr, _⟩ => nomatch hr)), K⟩
  case round =>
    clear hc0 K
    obtain ⟨j, bs, mm, hj, rfl, rfl, rfl, HB, HK⟩ := hrel
    have hw := ha.stay HK
    have c1 := hw.B.cellAt (i := 0) rfl
    rw [← HN.out] at c1
    by_cases hlt : j < n
    · obtain ⟨r, hr⟩ : ∃ r, xs[j]? = some r := ⟨_, List.getElem?_eq_getElem (by have := HN.out; omega)⟩
      obtain ⟨g, off, hA, d0, d1, d2⟩ := hw.cell hr
      subst hA
      have hD : ∀ x, (∃ q ∈ xs.take (j + 1), q.n = x) → (∃ q ∈ xs.take j, q.n = x) ∨ x = r.n := by
        rintro x ⟨q, hq, rfl⟩
        rw [take_next hr] at hq
        rcases List.mem_append.1 hq with hq | hq
        · exact .inl ⟨q, hq, rfl⟩
        · simp at hq; subst hq; exact .inr rfl
      have HD := Lib.hid hD
      have hj0 : (0 : Int) ≤ (j : Int) := by omega
      have hj1 : (j : Int) < (n : Int) := by omega
      have hI : Is wr p F xs := ⟨_, c, hw, HF.out, X.out⟩
      have hm0 := HB.out.nn
      clear hD d0 d2
      go_wp2_with fail
      refine (by_any p F xs r.n _ hl' hI).mono ?_
      rintro e w1 ⟨rfl, k1⟩
      have HK1 := HK.trans k1 (fun _ _ h => h)
      have hw1 := ha.stay HK1
      have e1 := hw1.B.cellAt (i := 0) rfl
      rw [← HN.out] at e1
      obtain ⟨g', off', hA', _, e2, _⟩ := hw1.cell hr
      cases hA'
      have hup : ¬ (mm < earnOf xs r.n ∨ (earnOf xs r.n = mm ∧ 0 < mm ∧ lt r.n bs = true)) → Hid (Led.Best (earnOf xs) (fun x => ∃ r ∈ xs.take (j + 1), r.n = x) bs mm) := fun h => Lib.hid (HB.out.stay HD.out h)
      have hst : (mm < earnOf xs r.n ∨ (earnOf xs r.n = mm ∧ 0 < mm ∧ lt r.n bs = true)) → Hid (Led.Best (earnOf xs) (fun x => ∃ r ∈ xs.take (j + 1), r.n = x) r.n (earnOf xs r.n)) := fun h => Lib.hid (HB.out.up HD.out h)
      unfold lt at hup hst
      have HUP := Lib.hid hup
      have HST := Lib.hid hst
      clear hup hst c1 d1 hI hw k1 HK
      generalize earnOf xs r.n = E at *
      by_cases h1 : mm < E
      · go_wp2_with fail
        go_roundw
        case rel => exact ⟨j + 1, r.n, E, by omega, by go_num, rfl, rfl, HST.out (.inl h1), HK1⟩
        case measure => simp [intOf]; omega
      · by_cases h2 : E = mm
        · by_cases h3 : 0 < mm
          · have heq : (E == mm) = true := by simpa using h2
            cases h4 : Op.bytesLess r.n.toList bs.toList with
            | true =>
              have HX := HST.out (.inr ⟨h2, h3, h4⟩)
              clear h2
              go_wp2_with fail
              go_roundw
              case rel => exact ⟨j + 1, r.n, E, by omega, by go_num, rfl, rfl, HX, HK1⟩
              case measure => simp [intOf]; omega
            | false =>
              have HX := HUP.out (by rw [h4]; intro hc; rcases hc with hc | hc; exact h1 hc; exact nomatch hc.2.2)
              clear h2
              go_wp2_with fail
              go_roundw
              case rel => exact ⟨j + 1, bs, mm, by omega, by go_num, rfl, rfl, HX, HK1⟩
              case measure => simp [intOf]; omega
          · have heq : (E == mm) = true := by simpa using h2
            have HX := HUP.out (by intro hc; rcases hc with hc | hc; exact h1 hc; exact h3 hc.2.1)
            clear h2
            go_wp2_with fail
            go_roundw
            case rel => exact ⟨j + 1, bs, mm, by omega, by go_num, rfl, rfl, HX, HK1⟩
            case measure => simp [intOf]; omega
        · have heq : (E == mm) = false := by simpa using h2
          have HX := HUP.out (by intro hc; rcases hc with hc | hc; exact h1 hc; exact h2 hc.1)
          clear h2
          go_wp2_with fail
          go_roundw
          case rel => exact ⟨j + 1, bs, mm, by omega, by go_num, rfl, rfl, HX, HK1⟩
          case measure => simp [intOf]; omega
    · have hT : Top xs bs mm := HB.out.grow (fun x _ hp => by
        obtain ⟨r, hr, he⟩ := name_of_earn hp
        exact ⟨r, by rw [List.take_of_length_le (by have := HN.out; omega)]; exact hr, he⟩)
      have HT := Lib.hid hT
      clear hT
      go_wp2_with fail
      go_ret2
      exact ⟨bs, mm, rfl, HT.out, HK⟩

end RefLed
end Go.Proofs.Ytpfhogbkbodfjab
