/- The law FateOnce returns true at every input and leaves its arguments alone. Conditions: none. -/
import Derived.Test.YtpfhogbkbodfjaaAwake15
import Derived.Test.YtpfhogbkbodfjaaMap
import Derived.Test.YtpfhogbkbodfjaaArgs
import Derived.Deep.RegionHeld3
import Derived.StillTailTactics
namespace Go.Proofs.Ytpfhogbkbodfjaa
open Go.RowKit Go.ChangeShapes Go.WideShapes Go.ChangeAt Go.Deep
set_option linter.unusedVariables false
set_option linter.unusedSimpArgs false
/-- One word of a job. -/
structure Act15 where
  i : Int
  k : Int
  t : Int
def Act15.cells (x : Act15) : List Value := [.int .i64 x.i, .int .i64 x.k, .int .i64 x.t]
section
variable {H : Type} {enc : TypeId × Value → H} {w : World} {base : Nat} {spare : Nat → Bool} {held : Bool}
theorem el_act15 : ∀ m cs' y, DataW.trod enc Try.prog w base spare held m 31 cs' = some y → ∃ x : Act15, cs' = x.cells := fun m cs' y h => by
  obtain ⟨ys, n, _, _, hlen, hyl, hf⟩ := DataW.trod_struct Try.underlying31 h
  have hl : cs'.length = 3 := hlen.trans (by kernel_rfl)
  have hc : Try.prog.cellsOf 3 = 1 := by kernel_rfl
  obtain ⟨c0, c1, c2, rfl⟩ : ∃ a b c, cs' = [a, b, c] := by
    cases cs' with
    | nil => simp at hl
    | cons a l => cases l with
      | nil => simp at hl
      | cons b l => cases l with
        | nil => simp at hl
        | cons c l => cases l with
          | nil => exact ⟨a, b, c, rfl⟩
          | cons d l => simp at hl
  clear hlen hl h
  obtain ⟨y0, h0⟩ : ∃ y0, ys[0]? = some y0 := ⟨_, List.getElem?_eq_getElem (by rw [hyl]; decide)⟩
  obtain ⟨y1, h1⟩ : ∃ y1, ys[1]? = some y1 := ⟨_, List.getElem?_eq_getElem (by rw [hyl]; decide)⟩
  obtain ⟨y2, h2⟩ : ∃ y2, ys[2]? = some y2 := ⟨_, List.getElem?_eq_getElem (by rw [hyl]; decide)⟩
  have g0 : DataW.trod enc Try.prog w base spare held n 3 (([c0, c1, c2].drop 0).take (Try.prog.cellsOf 3)) = some y0 := (hf 0 _ rfl).trans h0
  have g1 : DataW.trod enc Try.prog w base spare held n 3 (([c0, c1, c2].drop 1).take (Try.prog.cellsOf 3)) = some y1 := (hf 1 _ rfl).trans h1
  have g2 : DataW.trod enc Try.prog w base spare held n 3 (([c0, c1, c2].drop 2).take (Try.prog.cellsOf 3)) = some y2 := (hf 2 _ rfl).trans h2
  rw [hc] at g0 g1 g2
  obtain ⟨a, e0, _, _⟩ := DataW.trod_int Try.underlying3 g0
  obtain ⟨b, e1, _, _⟩ := DataW.trod_int Try.underlying3 g1
  obtain ⟨c, e2, _, _⟩ := DataW.trod_int Try.underlying3 g2
  simp at e0 e1 e2
  subst e0 e1 e2
  exact ⟨⟨a, b, c⟩, rfl⟩
end
namespace FateOnce
open Fate
theorem count_set (xs : List Fa) (k : Int) : ∀ (i : Nat) (f f' : Fa), xs[i]? = some f → f.k = k → f'.k ≠ k → count (xs.set i f') k + 1 = count xs k := by
  induction xs with
  | nil => intro i f f' h; simp at h
  | cons x xs ih =>
    intro i f f' h hf hf'
    cases i with
    | zero =>
      simp at h
      subst h
      simp [count, List.filter_cons, hf, hf']
    | succ i =>
      have := ih i f f' (by simpa using h) hf hf'
      by_cases hx : x.k = k
      · simp [count, List.filter_cons, hx] at this ⊢; omega
      · simp [count, List.filter_cons, hx] at this ⊢; omega
theorem open_count (xs : List Fa) : (openL xs).length = count xs 0 := by
  induction xs using snoc_ind with
  | h0 => rfl
  | h xs f ih =>
    rw [openL_snoc, count_snoc, List.length_append, ih]
    by_cases h : f.k = 0 <;> simp [h]
theorem count_rep (n : Nat) : count (List.replicate n ⟨0, 0⟩) 0 = n := by simp [count]
def pair (i : Int) (f : Fa) : Value := .agg #[.int .i64 i, .int .i64 f.k, .int .i64 f.t]
/-- The book and the map tell the same. -/
structure Sync (n : Nat) (xs : List Fa) (l : List (Int × Value)) : Prop where
  len : xs.length = n
  each : ∀ (i : Nat) f, xs[i]? = some f → (f.k = 0 → f.t = 0 ∧ look l (i : Int) = none) ∧ (f.k ≠ 0 → look l (i : Int) = some (pair i f))
  cnt : count xs 0 + l.length = n
theorem Sync.start (n : Nat) : Sync n (List.replicate n ⟨0, 0⟩) [] where
  len := List.length_replicate
  each i f h := by
    rw [List.getElem?_replicate] at h
    split at h
    · cases h; exact ⟨fun _ => ⟨rfl, rfl⟩, fun h => absurd rfl h⟩
    · cases h
  cnt := by rw [count_rep]; rfl
theorem Sync.step {n : Nat} {xs : List Fa} {l : List (Int × Value)} (h : Sync n xs l) {i : Nat} {f : Fa} (hf : xs[i]? = some f) (hk : f.k = 0) {k t : Int} (h1 : 1 ≤ k) :
    look l (i : Int) = none ∧ Sync n (xs.set i ⟨k, t⟩) (upd l (i : Int) (.agg #[.int .i64 (i : Int), .int .i64 k, .int .i64 t])) := by
  have hn := ((h.each i f hf).1 hk).2
  refine ⟨hn, ?_, ?_, ?_⟩
  · rw [List.length_set]; exact h.len
  · intro j g hg
    have hi : i < xs.length := (List.getElem?_eq_some_iff.1 hf).1
    rw [look_upd]
    by_cases hij : j = i
    · subst hij
      rw [List.getElem?_set_self hi] at hg
      cases hg
      refine ⟨fun h0 => ?_, fun _ => by rw [if_pos rfl]; rfl⟩
      dsimp only at h0
      omega
    · rw [List.getElem?_set_ne (fun e => hij e.symm)] at hg
      rw [if_neg (by omega)]
      exact h.each j g hg
  · rw [upd_length, hn]
    have := count_set xs 0 i f ⟨k, t⟩ hf hk (by dsimp only; omega)
    have := h.cnt
    simp
    omega
/-- What holds at the head of each round. -/
structure Inv (w : World) (n p g m : Nat) (xs : List Fa) (l : List (Int × Value)) (wr : World) : Prop where
  S : Sync n xs l
  P : Fate.At wr p g xs
  M : MapIs (fun k : Int => Value.int .i64 k) wr m l
  B : Below w.heap.size w wr
  z : w.heap.size ≤ wr.heap.size
theorem Inv.keep {w : World} {n p g m : Nat} {xs : List Fa} {l : List (Int × Value)} {w1 w2 : World} (h : Inv w n p g m xs l w1) (k : Keeps (fun _ => False) w1 w2) : Inv w n p g m xs l w2 :=
  ⟨h.S, h.P.none k, h.M.kept k (fun h => h), below_keeps h.B k h.z (fun _ h => h.elim), Nat.le_trans h.z k.size⟩
theorem zeroA (W : World) : (zeroValue 31).run Try.prog W = .ok (.agg #[.int .i64 0, .int .i64 0, .int .i64 0]) W := by kernel_rfl
set_option maxRecDepth 100000 in
set_option maxHeartbeats 4000000 in
theorem walk_in (n : Nat) (A1 : Option Addr) (n1 c1 : Nat) (x1 : List Act15) (w : World) (r1 : Row Act15.cells 3 w A1 n1 x1) (h1 : 1 ≤ n) (h2 : n ≤ 50) (h3 : n1 ≤ 60) :
    Calls Try.prog 3 #[.int .i64 (n : Int), .slice A1 n1 c1] w fun e w' => e = .returned (.bool true) ∧ Below w.heap.size w w' := by
  have hmm := @run_makeMap Try.prog
  go_enter Try.func3, Try.ntmps3
  go_wp2_with fail
  refine (awake_ok w).mono ?_
  rintro e wa ⟨rfl, ba⟩
  go_wp2_with fail
  refine (new_any n _ (by omega)).mono ?_
  rintro e w1 ⟨p, g, rfl, hp, hg, P1, k1⟩
  have b1 := below_keeps ba k1 ba.size (fun _ h => h.elim)
  have z1 : w.heap.size ≤ w1.heap.size := Nat.le_trans ba.size k1.size
  have hpB : w.heap.size ≤ p := Nat.le_trans ba.size hp
  have hgB : w.heap.size ≤ g := Nat.le_trans ba.size hg
  clear k1 ba
  go_wp2_with fail
  have I1 : Inv w n p g w1.heap.size (List.replicate n ⟨0, 0⟩) [] (w1.alloc (.map #[] 0)) := ⟨Sync.start n, P1.alloc _, MapIs.made _ _, b1.alloc z1 _, Nat.le_trans z1 (by simp)⟩
  have hmB : w.heap.size ≤ w1.heap.size := z1
  clear P1 b1 z1 hmm
  generalize w1.heap.size = m at I1 hmB ⊢
  go_loopw [8] (fun i wr => ∃ (k : Nat) (xs : List Fa) (l : List (Int × Value)), k ≤ n1 ∧ i = .int .i64 k ∧ Inv w n p g m xs l wr) (fun i _ => n1 - (intOf i).toNat)
  case atStart => exact ⟨0, _, _, by omega, rfl, I1⟩
  case round =>
    obtain ⟨k, xs, l, hk, rfl, I⟩ := hrel
    by_cases hlt : k < n1
    · obtain ⟨bb, off, y, rfl, hy, hbl, _⟩ := r1.at_ I.B hlt
      have C3 : ∀ W, Below w.heap.size w W → W.cell? ⟨bb, off + k * 3, none⟩ = some (.int .i64 y.i) ∧ W.cell? ⟨bb, off + k * 3 + 1, none⟩ = some (.int .i64 y.k) ∧ W.cell? ⟨bb, off + k * 3 + 2, none⟩ = some (.int .i64 y.t) := by
        intro W hW
        obtain ⟨bb', off', y', he, hy', _, hc⟩ := r1.at_ hW hlt
        cases he
        rw [hy] at hy'
        cases hy'
        exact ⟨hc 0 _ rfl, hc 1 _ rfl, hc 2 _ rfl⟩
      have HC3 := Lib.hid C3
      clear C3 hy
      obtain ⟨I0, K0, T0⟩ := y
      dsimp only at HC3
      have hxl : xs.length ≤ 200 := by rw [I.S.len]; omega
      have hk0 : (0 : Int) ≤ (k : Int) := by omega
      have hk1 : (k : Int) < (n1 : Int) := by omega
      have Id := I.keep ((Keeps.refl (fun _ => False) wr).drew)
      by_cases hbad : ¬ (0 ≤ I0 ∧ I0 < xs.length) ∨ K0 < 1 ∨ 5 < K0 ∨ T0 < 0
      · have HBAD := Lib.hid hbad
        clear hbad
        go_wp2_with fail
        go_region_held3 (fun W => W.cell? ⟨bb, off + k * 3, none⟩ = some (.int .i64 I0) ∧ W.cell? ⟨bb, off + k * 3 + 1, none⟩ = some (.int .i64 K0) ∧ W.cell? ⟨bb, off + k * 3 + 2, none⟩ = some (.int .i64 T0)) (first | exact HC3.out _ Id.B | exact HC3.out _ I.B)
          (first | (go_at_call 17; refine (say_no p g xs I0 K0 T0 _ hxl Id.P HBAD.out).mono ?_; rintro e w5 ⟨rfl, rfl⟩))
        go_wp2_with fail
        go_roundw
        case rel => exact ⟨k + 1, xs, l, by omega, by go_num, Id⟩
        case measure => simp [intOf]; omega
      · obtain ⟨i, rfl⟩ : ∃ i : Nat, I0 = (i : Int) := ⟨I0.toNat, by omega⟩
        obtain ⟨f, hf⟩ : ∃ f, xs[i]? = some f := ⟨_, List.getElem?_eq_getElem (by omega)⟩
        have hK1 : 1 ≤ K0 := by omega
        have hK2 : K0 ≤ 5 := by omega
        have hT0 : 0 ≤ T0 := by omega
        have hsay : say xs i K0 T0 = if f.k = 0 then (0, xs.set i ⟨K0, T0⟩) else (5, xs) := by
          unfold say
          rw [if_neg (by omega), Int.toNat_natCast, hf]
          by_cases hk : f.k = 0
          · rw [if_pos hk, if_neg (by simp [hk])]
          · rw [if_neg hk, if_pos (by simp [hk])]
        clear hbad
        by_cases hk : f.k = 0
        · rw [if_pos hk] at hsay
          obtain ⟨hno, hS⟩ := I.S.step hf hk (k := K0) (t := T0) hK1
          have HSAY := Lib.hid hsay
          have HF := Lib.hid hf
          have HNO := Lib.hid hno
          clear hsay hf hno hk
          go_wp2_with fail
          go_region_held3 (fun W => W.cell? ⟨bb, off + k * 3, none⟩ = some (.int .i64 (i : Int)) ∧ W.cell? ⟨bb, off + k * 3 + 1, none⟩ = some (.int .i64 K0) ∧ W.cell? ⟨bb, off + k * 3 + 2, none⟩ = some (.int .i64 T0)) (first | exact HC3.out _ Id.B | exact HC3.out _ I.B | exact HC3.out _ B5)
            (first | (go_at_call 17; refine (say_yes p g xs i f K0 T0 _ hxl Id.P HF.out hK1 hK2 hT0 0 _ HSAY.out).mono ?_; rintro e w5 ⟨rfl, P5, k5⟩; have B5 := below_keeps Id.B k5 Id.z (fun i hi => by omega)))
          have hne : m ≠ g := Id.M.ne_blk Id.P.G
          have M5 := Id.M.kept k5 hne
          have z5 := Nat.le_trans Id.z k5.size
          clear k5 Id I hne
          have hlk := M5.lookup (T := 28) (key_int Try.underlying3) Try.underlying28 (zeroA w5) (i : Int) true
          rw [HNO.out] at hlk
          have hlk' : (Instr.lookup 28 (.map (some m)) (.int .i64 (i : Int)) true).run Try.prog w5 = .ok (.tuple #[.agg #[.int .i64 0, .int .i64 0, .int .i64 0], .bool false]) w5 := hlk
          obtain ⟨d0, d1, d2⟩ := HC3.out _ B5
          clear hlk
          go_wp2_with fail
          obtain ⟨e0, e1, e2⟩ := HC3.out _ (B5.alloc z5 (.cells #[.int .i64 0, .int .i64 0, .int .i64 0] 31))
          have M6 := M5.kept ((Keeps.refl (fun _ => False) w5).alloc (.cells #[.int .i64 0, .int .i64 0, .int .i64 0] 31)) (fun h => h)
          have P6 := P5.alloc (.cells #[.int .i64 0, .int .i64 0, .int .i64 0] 31)
          have B6 := B5.alloc z5 (.cells #[.int .i64 0, .int .i64 0, .int .i64 0] 31)
          have z6 : w.heap.size ≤ (w5.alloc (.cells #[.int .i64 0, .int .i64 0, .int .i64 0] 31)).heap.size := Nat.le_trans z5 (by simp)
          clear d0 d1 d2 hlk' M5 P5 B5 z5
          generalize w5.heap.size = q5 at *
          generalize w5.alloc (.cells #[.int .i64 0, .int .i64 0, .int .i64 0] 31) = w6 at *
          go_still_tail 10, (by kernel_rfl)
          refine wpList_update_is (w := w6.drew) (m := m) (l := l) (by exact M6) (key_int Try.underlying3) Try.underlying28 rfl (.tmp 75) (.tmp 80) (.tmp 84) rfl (i : Int) (.agg #[.int .i64 (i : Int), .int .i64 K0, .int .i64 T0]) rfl rfl rfl ?_
          intro w7 M7 k7
          have hne2 : g ≠ m := fun h => (MapIs.ne_blk M6 P6.G) h.symm
          have hne3 : p ≠ m := fun h => (MapIs.ne_blk M6 P6.B) h.symm
          have J : Inv w n p g m _ _ w7 := ⟨hS, (P6.none ((Keeps.refl _ w6).drew)).kept k7 hne3 hne2, M7, below_keeps B6.drew k7 z6 (fun i hi => by omega), Nat.le_trans z6 k7.size⟩
          clear hne2 hne3 M6 P6 B6 z6 k7 M7
          go_wp2_with fail
          go_roundw
          case rel => exact ⟨k + 1, _, _, by omega, by go_num, J⟩
          case measure => simp [intOf]; omega
        · rw [if_neg hk] at hsay
          have HSAY := Lib.hid hsay
          have HF := Lib.hid hf
          clear hsay hf hk
          go_wp2_with fail
          go_region_held3 (fun W => W.cell? ⟨bb, off + k * 3, none⟩ = some (.int .i64 (i : Int)) ∧ W.cell? ⟨bb, off + k * 3 + 1, none⟩ = some (.int .i64 K0) ∧ W.cell? ⟨bb, off + k * 3 + 2, none⟩ = some (.int .i64 T0)) (first | exact HC3.out _ Id.B | exact HC3.out _ I.B | exact HC3.out _ B5)
            (first | (go_at_call 17; refine (say_yes p g xs i f K0 T0 _ hxl Id.P HF.out hK1 hK2 hT0 5 _ HSAY.out).mono ?_; rintro e w5 ⟨rfl, P5, k5⟩; have B5 := below_keeps Id.B k5 Id.z (fun i hi => by omega)))
          have hne : m ≠ g := Id.M.ne_blk Id.P.G
          have J : Inv w n p g m xs l w5 := ⟨Id.S, P5, Id.M.kept k5 hne, B5, Nat.le_trans Id.z k5.size⟩
          clear hne k5 P5 B5
          go_wp2_with fail
          go_roundw
          case rel => exact ⟨k + 1, xs, l, by omega, by go_num, J⟩
          case measure => simp [intOf]; omega
    · have hxl : xs.length ≤ 200 := by rw [I.S.len]; omega
      go_wp2_with fail
      go_loopw [11] (fun i wr => ∃ k : Nat, k ≤ n ∧ i = .int .i64 k ∧ Inv w n p g m xs l wr) (fun i _ => n - (intOf i).toNat)
      case atStart => exact ⟨0, by omega, rfl, I⟩
      case round =>
        obtain ⟨j, hj, rfl, J⟩ := hrel
        by_cases hlt2 : j < n
        · obtain ⟨f, hf⟩ : ∃ f, xs[j]? = some f := ⟨_, List.getElem?_eq_getElem (by rw [J.S.len]; omega)⟩
          have hE := J.S.each j f hf
          have HF := Lib.hid hf
          have HE := Lib.hid hE
          clear hf hE
          go_wp2_with fail
          refine (of_any p g xs j f _ hxl J.P HF.out).mono ?_
          rintro e w5 ⟨rfl, k5⟩
          have J5 := J.keep k5
          have J6 := J5.keep ((Keeps.refl (fun _ => False) w5).alloc (.cells #[.int .i64 f.k, .int .i64 f.t] 34))
          clear J k5
          have hlk := J6.M.lookup (T := 28) (key_int Try.underlying3) Try.underlying28 (zeroA _) (j : Int) false
          have hlk' : (Instr.lookup 28 (.map (some m)) (.int .i64 (j : Int)) false).run Try.prog (w5.alloc (.cells #[.int .i64 f.k, .int .i64 f.t] 34)) = .ok (.agg #[.int .i64 (if f.k = 0 then 0 else (j : Int)), .int .i64 f.k, .int .i64 f.t]) (w5.alloc (.cells #[.int .i64 f.k, .int .i64 f.t] 34)) := by
            refine hlk.trans ?_
            by_cases hk : f.k = 0
            · rw [((HE.out).1 hk).2]
              simp [hk, ((HE.out).1 hk).1]
            · rw [(HE.out).2 hk]
              simp [hk, pair]
          clear hlk J5
          go_wp2_with fail
          go_roundw
          case rel => exact ⟨j + 1, by omega, by go_num, J6.keep ((Keeps.refl _ _).alloc _)⟩
          case measure => simp [intOf]; omega
        · have HO := Lib.hid (open_count xs)
          have HL := Lib.hid J.S.cnt
          go_wp2_with fail
          refine (open_any p g xs _ hxl J.P).mono ?_
          rintro e w7 ⟨A, c, rfl, HH, k7⟩
          have J7 := J.keep k7
          go_wp2_with (at_len; refine wpList_len_is J7.M Try.underlying28 rfl (.tmp 119) rfl rfl ?_)
          go_ret
          exact ⟨by simp; have := HO.out; have := HL.out; unfold wrap64; omega, J7.B⟩
set_option maxHeartbeats 1000000 in
theorem walk_out (n : Int) (A1 : Option Addr) (n1 c1 : Nat) (w : World) (hm1 : n1 ≤ 9223372036854775807) (h : ¬ (1 ≤ n ∧ n ≤ 50 ∧ n1 ≤ 60)) :
    Calls Try.prog 3 #[.int .i64 n, .slice A1 n1 c1] w fun e w' => e = .returned (.bool true) ∧ Below w.heap.size w w' := by
  go_enter Try.func3, Try.ntmps3
  go_wp2_with fail
  refine (awake_ok w).mono ?_
  rintro e wa ⟨rfl, ba⟩
  go_wp2_with fail
  all_goals (go_ret; exact ⟨rfl, ba⟩)
theorem walk (n : Int) (A1 : Option Addr) (n1 c1 : Nat) (x1 : List Act15) (w : World) (wn : (Lit.int .i64 n).wf = true) (r1 : Row Act15.cells 3 w A1 n1 x1) :
    Calls Try.prog 3 #[.int .i64 n, .slice A1 n1 c1] w fun e w' => e = .returned (.bool true) ∧ Below w.heap.size w w' := by
  by_cases h : 1 ≤ n ∧ n ≤ 50 ∧ n1 ≤ 60
  · obtain ⟨m, rfl⟩ := Int.eq_ofNat_of_zero_le (show 0 ≤ n by omega)
    exact walk_in m A1 n1 c1 x1 w r1 (by omega) (by omega) h.2.2
  · have m1 := r1.2.1
    unfold maxLen at m1
    exact walk_out n A1 n1 c1 w m1 h
theorem own : ownKnob Try.prog.godebug = none := by kernel_rfl
theorem laidOut : laidOutB Try.prog = true := by kernel_rfl
set_option maxRecDepth 100000 in
theorem lifted (os : Os) (started : os.Started) (H : Type) (enc : TypeId × Value → H) :
    ReturnsInHanded {} Try.checked os 3 .any (Rows.fateOnceSpec.pre6 enc Try.prog Try.f3 Rows.fateOnceRow.domain false) (Rows.fateOnceSpec.post enc Try.prog Try.f3 false true false false) := by
  refine returnsInHanded_of_change (C := Try.checked) own started (by kernel_rfl) Try.func3
    (ChangeSpec.witness6 (enc := enc) (C := Try.checked) false ⟨#[], #[.int .i64 0, .slice none 0 0], []⟩ 8 (by kernel_rfl) (by kernel_rfl) (by kernel_rfl) (by kernel_rfl)) ?_
  intro W base args ds gs before hval0 hW hcnd _
  have hval : ∀ (j : Nat) t v, Try.f3.params[j]? = some t → args[j]? = some v → Value.okWide Try.prog W .any base t v := hval0
  have hW' := hW
  obtain ⟨p, q, hA0, hV, rfl, hfz, hnd⟩ := hW
  have hA : DataW.TrodAll enc Try.prog W 0 (fun _ => true) true Try.f3.params.toList args.toList ds p := hA0
  rw [Try.params3] at hA hval
  obtain ⟨v0, vs0, d0, ds0, p0, q0, hargs, rfl, rfl, h0, r0⟩ := trodAll_cons hA
  obtain ⟨v1, vs1, d1, ds1, p1, q1, rfl, rfl, rfl, h1, r1⟩ := trodAll_cons r0
  obtain ⟨rfl, rfl, rfl⟩ := trodAll_nil r1
  obtain rfl : args = #[v0, v1] := by cases args; simp_all
  obtain ⟨rfl, rfl⟩ := trodVars_none hV
  obtain ⟨a0, rfl, rfl, rfl, w0⟩ := open_int Try.underlying3 (hval 0 3 v0 rfl rfl) h0
  obtain ⟨A1, n1, c1, rfl⟩ := okWide_slice Try.underlying22 (hval 1 22 v1 rfl rfl)
  have k1 := h1
  have lt1 : ∀ x ∈ p1, x.block < W.heap.size := by obtain ⟨m, hm⟩ := k1; exact DataW.trod_lt m _ _ _ hm
  obtain ⟨x1, w1⟩ : ∃ xs, Row Act15.cells 3 W A1 n1 xs := by
    obtain ⟨fuel, hf⟩ := h1
    exact open_row _ 3 (by omega) Try.underlying22 (by kernel_rfl) el_act15 (by simpa [Value.cells] using hf)
  clear hA0 hval0
  refine (walk a0 A1 n1 c1 x1 W w0 w1).mono fun e W' ⟨he, bel⟩ => ?_
  subst he
  exact ⟨_, rfl, _, _, _, [], _, [], hW', trodAll_mk1 (shut_bool Try.underlying4 _), (trodAll_cons_mk (shut_int Try.underlying3 w0) (trodAll_cons_mk (Below.trod laidOut (by kernel_rfl) (of_decide_eq_true (by kernel_rfl)) k1 bel lt1) trodAll_mk0)), rfl, bel.frame _, fun h => by cases h⟩
theorem over : Rows.fateOnceRow.holds Try.pinned (OpenSpec.ofChange Rows.fateOnceSpec) :=
  OpenClaim.holds_of_wide 3 Try.f3 rfl rfl rfl rfl rfl rfl rfl ⟨rfl, rfl, rfl, rfl, rfl⟩ rfl rfl rfl rfl rfl (by kernel_rfl) Try.func3 (by kernel_rfl)
    (of_decide_eq_true (by kernel_rfl)) (by unfold Func.isWrapper; first | (rw [if_pos (by decide +kernel)]; kernel_rfl) | (rw [if_neg (by decide +kernel)]; exact ⟨rfl, rfl⟩))
    (fun os started H enc _ => lifted os started H enc)
/-- The statement. -/
theorem proved : Rows.FateOnceSaid := over
#print axioms proved
end FateOnce
end Go.Proofs.Ytpfhogbkbodfjaa
