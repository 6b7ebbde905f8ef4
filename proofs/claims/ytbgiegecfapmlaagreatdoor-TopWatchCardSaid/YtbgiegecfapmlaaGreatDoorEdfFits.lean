/- edf.Slack and edf.Fits: can all be met in time?; conditions: fewer than twenty of them, in their bounds. -/
import Derived.Test.YtbgiegecfapmlaaGreatDoorEdfSort
namespace Go.Proofs.YtbgiegecfapmlaaGreatDoor
open Go.RowKit
set_option linter.unusedVariables false
set_option linter.unusedSimpArgs false
theorem Row.flat {α : Type} {cf : α → List Value} {sz : Nat} (hcf : ∀ x, (cf x).length = sz) (hsz : 0 < sz) {w : World} {b off n : Nat} {xs : List α} (h : Row cf sz w (some ⟨b, off, none⟩) n xs) :
    ∀ m u, (xs.flatMap cf)[m]? = some u → w.cell? ⟨b, off + m, none⟩ = some u := by
  intro m u hm
  have hlt := (List.getElem?_eq_some_iff.1 hm).1
  rw [flat_length hcf] at hlt
  have hj : m % sz < sz := Nat.mod_lt _ hsz
  have hmm : m / sz * sz + m % sz = m := by rw [Nat.mul_comm]; exact Nat.div_add_mod m sz
  have hg := flat_get hcf xs (m / sz) (m % sz) hj
  rw [hmm, hm] at hg
  have hq : m / sz < xs.length := Nat.div_lt_of_lt_mul (by rw [Nat.mul_comm]; exact hlt)
  rw [List.getElem?_eq_getElem hq] at hg
  obtain ⟨b', off', hA, _, hc⟩ := h.2.2 (by have h1 := h.1; have h2 := Nat.lt_of_le_of_lt (Nat.zero_le _) hq; rw [h1] at h2; exact h2)
  cases hA
  have := hc (m / sz) _ (List.getElem?_eq_getElem hq) (m % sz) u hg.symm
  rwa [Nat.add_assoc, hmm] at this
namespace Edf
/-- What the first k need. -/
def sumN (l : List Lf) : Nat → Int
  | 0 => 0
  | k + 1 => sumN l k + (l[k]?.map (·.n)).getD 0
theorem sumN_cons (x : Lf) (l : List Lf) (k : Nat) : sumN (x :: l) (k + 1) = x.n + sumN l k := by
  induction k with
  | zero => simp [sumN]
  | succ k ih =>
    rw [show sumN (x :: l) (k + 1 + 1) = sumN (x :: l) (k + 1) + (((x :: l)[k + 1]?).map (·.n)).getD 0 from rfl, ih, List.getElem?_cons_succ]
    simp only [sumN]
    omega
theorem sums_all (now : Int) (l : List Lf) : ∀ acc, sums now acc l ↔ ∀ k x, l[k]? = some x → acc + sumN l (k + 1) ≤ x.d - now := by
  induction l with
  | nil => intro acc; simp [sums]
  | cons y l ih =>
    intro acc
    simp only [sums]
    rw [ih]
    constructor
    · rintro ⟨h1, h2⟩ k x hx
      cases k with
      | zero => simp at hx; subst hx; rw [sumN_cons]; simp only [sumN]; omega
      | succ k => have := h2 k x (by simpa using hx); rw [sumN_cons]; omega
    · intro h
      refine ⟨?_, fun k x hx => ?_⟩
      · have := h 0 y rfl; rw [sumN_cons] at this; simp only [sumN] at this; omega
      · have := h (k + 1) x (by simpa using hx); rw [sumN_cons] at this; omega
theorem sumN_le {l : List Lf} (h : ∀ x ∈ l, 0 ≤ x.n ∧ x.n ≤ 1000000) (k : Nat) : 0 ≤ sumN l k ∧ sumN l k ≤ 1000000 * (k : Int) := by
  induction k with
  | zero => simp [sumN]
  | succ k ih =>
    simp only [sumN]
    cases hx : l[k]? with
    | none => simp; omega
    | some x => have := h x (List.mem_of_getElem? hx); simp; omega
theorem infoL' : (Tryz.prog.info? 207).map (fun i => (i.zero, i.size, i.bytes)) = some (some (.agg #[.int .i64 0, .int .i64 0]), 2, 16) := by kernel_rfl
theorem infoL : ∃ i, Tryz.prog.info? 207 = some i ∧ i.zero = some (.agg #[.int .i64 0, .int .i64 0]) ∧ i.size = 2 ∧ i.bytes = 16 := by
  have h := infoL'
  cases hi : Tryz.prog.info? 207 with
  | none => rw [hi] at h; cases h
  | some i =>
    rw [hi] at h
    simp at h
    exact ⟨i, rfl, h.1, h.2.1, h.2.2⟩
/-- Clone: the same ones, in a block of its own. -/
theorem clone_is {w : World} {b off n c : Nat} {ls : List Lf} (R : Row lc 2 w (some ⟨b, off, none⟩) n ls) (h0 : 0 < n) (hn : n < 20) :
    Calls Tryz.prog 165 #[.slice (some ⟨b, off, none⟩) n c] w fun e w' =>
      ∃ g c', e = .returned (.slice (some ⟨g, 0, none⟩) n c') ∧ Has w' 207 2 (.slice (some ⟨g, 0, none⟩) n c') n (ls.flatMap lc) ∧ w.heap.size ≤ g ∧ Below w.heap.size w w' := by
  obtain ⟨i0, hi, hz0, hz1, hz2⟩ := infoL
  have hl := R.1
  refine (AnyE.slices_Clone Tryz.laysCloneL i0 _ 2 16 hi hz0 hz1 hz2 rfl (by omega) Tryz.sizeOf207 b off n c (ls.flatMap lc) w (by rw [flat_length lc_len, hl]) R.2.1 (by omega) (Row.flat lc_len (by omega) R) (by
    intro u hu
    obtain ⟨x, _, hx⟩ := List.mem_flatMap.1 hu
    exact one_cell x u hx)).mono ?_
  rintro e w' ⟨v', rfl, hown, hne, hb⟩
  have hHas := Has.of_own hown
  rcases hown.2 with ⟨h1, _⟩ | ⟨g, cap, cur, hv, hbase, hg, hnc, hcm, hcs, htake⟩
  · exact absurd h1 hne
  · subst hv
    exact ⟨g, cap, rfl, hHas, hbase, hb⟩
/-- The loop's state at i: the sum, the least so far. -/
def At (l : List Lf) (now : Int) (i : Nat) (s v : Int) : Prop := s = sumN l i ∧ (-40000000 ≤ v ∧ v ≤ 40000000) ∧ (0 ≤ v ↔ ∀ k x, k < i → l[k]? = some x → sumN l (k + 1) ≤ x.d - now)
set_option maxRecDepth 100000 in
set_option maxHeartbeats 4000000 in
theorem slack_is {w : World} {A : Option Addr} {n c : Nat} {ls : List Lf} (R : Row lc 2 w A n ls) (hs : ∀ x ∈ ls, x.In) (hn0 : ∀ x ∈ ls, 0 ≤ x.n) (hn : n < 20) {now : Int} (hnow : In now) :
    Calls Tryz.prog 141 #[.int .i64 now, .slice A n c] w fun en w' => (∃ (v : Int) (b : Bool), en = .returned (.tuple #[.int .i64 v, .bool b]) ∧ ((b = false ∨ 0 ≤ v) ↔ Ok now ls)) ∧ Below w.heap.size w w' := by
  by_cases h0 : n = 0
  · subst h0
    have hl : ls = [] := List.length_eq_zero_iff.1 R.1
    subst hl
    have hi : ((0 : Int) == 0) = true := rfl
    clear R hs hn0 hnow
    go_enter Tryz.func141, Tryz.ntmps141
    go_wp2_with fail
    exact bodyPost_ret (v := .tuple #[.int .i64 0, .bool false]) (by simp [results, Tryz.results141, go_sem]) rfl ⟨⟨0, false, rfl, by simp [Ok]⟩, Below.refl _ _⟩
  · obtain ⟨b, off, hA, hbl, _⟩ := R.2.2 (by omega)
    subst hA
    have hni : ((n : Int) == 0) = false := by simp; omega
    have hni2 : ¬ (n : Int) = 0 := by omega
    have CM := may_true (c := c) R hs (by omega) hnow
    have CC := fun W (h : Row lc 2 W (some ⟨b, off, none⟩) n ls) => clone_is (c := c) h (by omega) hn
    have HR := Lib.hid R
    have HS := Lib.hid hs
    have HN0 := Lib.hid hn0
    have HN := Lib.hid hn
    have HH0 := Lib.hid h0
    have HNOW := Lib.hid hnow
    have HCC := Lib.hid CC
    clear R hs hn0 hnow CC h0 hbl hn
    go_enter Tryz.func141, Tryz.ntmps141
    go_wp2_with fail
    refine CM.mono ?_
    rintro e w1 ⟨rfl, hb1⟩
    clear CM
    go_wp2_with fail
    refine (HCC.out w1 (HR.out.below hb1)).mono ?_
    rintro e w2 ⟨g, c', rfl, hHas, hg, hb2⟩
    have B2 := hb1.trans (hb2.mono hb1.size)
    have hg1 : w.heap.size ≤ g := Nat.le_trans hb1.size hg
    have CS := sorted_is hHas (by have := HH0.out; omega) HN.out
    clear hHas hb1 hb2 HCC hg
    go_wp2_with fail
    refine CS.mono ?_
    rintro e w3 ⟨rfl, l, hp, hso, R3, k3⟩
    have B3 := below_keeps B2 k3 B2.size (fun i hi => by rw [hi]; exact hg1)
    have hl3 := R3.1
    have HL3 := Lib.hid hl3
    have HSO := Lib.hid hso
    have HP := Lib.hid hp
    have HR3 := Lib.hid R3
    have HIn := Lib.hid (fun x (hx : x ∈ l) => HS.out x (hp.mem_iff.1 hx))
    have HNn := Lib.hid (fun x (hx : x ∈ l) => HN0.out x (hp.mem_iff.1 hx))
    have HB3 := Lib.hid B3
    clear CS k3 B2 hl3 hso hp R3 hg1 HR HS
    go_wp2_with fail
    go_loopw [7, 8, 27] (fun s v i wr => ∃ (S V : Int) (k : Nat), s = .int .i64 S ∧ v = .int .i64 V ∧ i = .int .i64 (k : Int) ∧ k ≤ n ∧ At l now k S V ∧ Below w3.heap.size w3 wr) (fun _ _ i _ => n - (intOf i).toNat)
    case atStart => exact ⟨0, 0, 0, rfl, rfl, rfl, by omega, ⟨rfl, by omega, by simp⟩, Below.refl _ _⟩
    case round =>
      obtain ⟨S, V, k, rfl, rfl, rfl, hk, hat, B⟩ := hrel
      have HAT := Lib.hid hat
      clear hat
      by_cases hlt : k < n
      · have hlti : (k : Int) < (n : Int) := by omega
        obtain ⟨b', off', x, hA', hx, hb', d0, d1⟩ := cells2 (HR3.out.below B) hlt
        cases hA'
        rw [Nat.zero_add] at d0 d1
        have hi0 : (0 : Int) ≤ (k : Int) := by omega
        have hn19 := HN.out
        have hi1 : (k : Int) + 1 ≤ 9223372036854775807 := by omega
        have hxin := HIn.out x (List.mem_of_getElem? hx)
        have hxn := HNn.out x (List.mem_of_getElem? hx)
        have hmx : max x.n 0 = x.n := by omega
        have hS := HAT.out.1
        have hSle := sumN_le (l := l) (fun y hy => ⟨HNn.out y hy, (HIn.out y hy).n.2⟩) k
        have hs1 : sumN l (k + 1) = S + x.n := by simp only [sumN]; rw [hx, hS]; rfl
        have hd1 := hxin.d
        have hn1 := hxin.n
        have hno := HNOW.out
        unfold In at hd1 hn1 hno
        rw [← hS] at hSle
        have W1 := Lib.hid (show wrap64 (S + x.n) = S + x.n by unfold wrap64; omega)
        have W2 := Lib.hid (show wrap64 (x.d - now) = x.d - now by unfold wrap64; omega)
        have W3 := Lib.hid (show wrap64 (x.d - now - (S + x.n)) = x.d - now - (S + x.n) by unfold wrap64; omega)
        have HRNG := Lib.hid (show -40000000 ≤ x.d - now - (S + x.n) ∧ x.d - now - (S + x.n) ≤ 40000000 by omega)
        have X := Blk.new wr 207 (lc x)
        have x0 := X.cellAt (i := 0) rfl
        have x1 := X.cellAt (i := 1) rfl
        have B4 := B.alloc B.size (.cells (lc x).toArray 207)
        unfold lc at x0 x1 B4
        have HS1 := Lib.hid hs1
        have HX := Lib.hid hx
        clear hxin hd1 hn1 hno hSle hs1 hn19 hS X hb' B hx hxn
        by_cases hz : k = 0 ∨ x.d - now - (S + x.n) < V
        · have hA2 : Hid (At l now (k + 1) (S + x.n) (x.d - now - (S + x.n))) := Lib.hid (by
            refine ⟨HS1.out.symm, HRNG.out, ?_⟩
            constructor
            · intro h0 j y hj hy
              by_cases hjk : j = k
              · subst hjk; rw [HX.out] at hy; cases hy; rw [HS1.out]; omega
              · exact (HAT.out.2.2.1 (by omega)) j y (by omega) hy
            · intro h
              have := h k x (by omega) HX.out
              rw [HS1.out] at this
              omega)
          by_cases hk0 : k = 0
          · subst hk0
            have q0 : (((0 : Nat) : Int) == 0) = true := rfl
            clear hz
            go_wp2_with fail
            go_roundw
            case rel => exact ⟨_, _, 1, rfl, rfl, rfl, by omega, by rw [W1.out, W2.out, W3.out]; exact hA2.out, B4⟩
            case measure => simp [intOf]; omega
          · have q0 : ((k : Int) == 0) = false := by simp; omega
            have q1 : wrap64 (wrap64 (x.d - now) - wrap64 (S + x.n)) < V := by rw [W1.out, W2.out, W3.out]; omega
            clear hz hk0
            go_wp2_with fail
            go_roundw
            case rel => exact ⟨_, _, k + 1, rfl, rfl, by simp, by omega, by first | (rw [W1.out, W2.out, W3.out]; exact hA2.out) | (rw [W1.out]; exact hA2.out), B4⟩
            case measure => simp [intOf]; omega
        · have hA2 : Hid (At l now (k + 1) (S + x.n) V) := Lib.hid (by
            refine ⟨HS1.out.symm, HAT.out.2.1, ?_⟩
            constructor
            · intro h0 j y hj hy
              by_cases hjk : j = k
              · subst hjk; rw [HX.out] at hy; cases hy; rw [HS1.out]; omega
              · exact (HAT.out.2.2.1 (by omega)) j y (by omega) hy
            · intro h
              exact HAT.out.2.2.2 fun j y hj hy => h j y (by omega) hy)
          have q0 : ((k : Int) == 0) = false := by simp; omega
          have q1 : ¬ wrap64 (wrap64 (x.d - now) - wrap64 (S + x.n)) < V := by rw [W1.out, W2.out, W3.out]; omega
          clear hz
          go_wp2_with fail
          go_roundw
          case rel => exact ⟨_, _, k + 1, rfl, rfl, by simp, by omega, by first | (rw [W1.out, W2.out, W3.out]; exact hA2.out) | (rw [W1.out]; exact hA2.out), B4⟩
          case measure => simp [intOf]; omega
      · have hlti : ¬ (k : Int) < (n : Int) := by omega
        have F : Hid ((true = false ∨ 0 ≤ V) ↔ Ok now ls) := Lib.hid (by
          have h1 : Ok now l ↔ Ok now ls := ⟨Ok.perm HP.out, Ok.perm HP.out.symm⟩
          rw [← h1, ← sums_ok now l HSO.out HNn.out, sums_all]
          have h2 := HAT.out.2.2
          simp only [Bool.true_eq_false, false_or]
          rw [h2]
          constructor
          · intro h j y hy
            have hj := (List.getElem?_eq_some_iff.1 hy).1
            have := h j y (by rw [HL3.out] at hj; omega) hy
            omega
          · intro h j y _ hy
            have := h j y hy
            omega)
        go_wp2_with fail
        refine bodyPost_ret (v := .tuple #[.int .i64 V, .bool true]) (by simp [results, Tryz.results141, go_sem]) rfl ?_
        refine ⟨⟨V, .inr ⟨rfl, ?_⟩⟩, HB3.out.trans (B.mono HB3.out.size)⟩
        simpa using F.out
theorem fits_is {w : World} {A : Option Addr} {n c : Nat} {ls : List Lf} (R : Row lc 2 w A n ls) (hs : ∀ x ∈ ls, x.In) (hn0 : ∀ x ∈ ls, 0 ≤ x.n) (hn : n < 20) {now : Int} (hnow : In now) {f : Bool} (hf : f = true ↔ Ok now ls) :
    Calls Tryz.prog 111 #[.int .i64 now, .slice A n c] w fun en w' => en = .returned (.bool f) ∧ Below w.heap.size w w' := by
  have CS := slack_is (c := c) R hs hn0 hn hnow
  have CM := fun W (h : Row lc 2 W A n ls) => may_true (c := c) h hs (by omega) hnow
  have HCM := Lib.hid CM
  have HR := Lib.hid R
  have HF := Lib.hid hf
  clear R hs hn0 hn hnow CM hf
  go_enter Tryz.func111, Tryz.ntmps111
  go_wp2_with fail
  refine CS.mono ?_
  rintro e w1 ⟨⟨v, b, rfl, hv⟩, hb1⟩
  have HV := Lib.hid hv
  clear hv CS
  go_wp2_with fail
  refine (HCM.out w1 (HR.out.below hb1)).mono ?_
  rintro e w2 ⟨rfl, hb2⟩
  have B := hb1.trans (hb2.mono hb1.size)
  clear hb1 hb2 HCM HR
  cases b with
  | false =>
    have F : Hid (f = true) := Lib.hid (HF.out.2 (HV.out.1 (.inl rfl)))
    go_wp2_with fail
    go_ret
    exact ⟨by rw [F.out]; rfl, B⟩
  | true =>
    by_cases h0 : 0 ≤ v
    · have F : Hid (f = true) := Lib.hid (HF.out.2 (HV.out.1 (.inr h0)))
      go_wp2_with fail
      go_ret
      exact ⟨by rw [F.out]; first | rfl | (simp; omega), B⟩
    · have F : Hid (f = false) := Lib.hid (by
        cases hfv : f with
        | false => rfl
        | true =>
          rcases HV.out.2 (HF.out.1 hfv) with h | h
          · cases h
          · omega)
      go_wp2_with fail
      go_ret
      exact ⟨by rw [F.out]; first | rfl | (simp; omega), B⟩
end Edf
end Go.Proofs.YtbgiegecfapmlaaGreatDoor
