/- The law ArenaOnce returns true at every input and leaves its arguments alone. Conditions: none. -/
import Derived.Test.YtpfhogbkbodfjaaAwake4
import Derived.Test.YtpfhogbkbodfjaaArIIs
import Derived.Test.YtpfhogbkbodfjaaArILen
import Derived.Test.YtpfhogbkbodfjaaOnce
import Derived.Test.YtpfhogbkbodfjaaArgs
import Derived.Deep.RegionLaw
namespace Go.Proofs.Ytpfhogbkbodfjaa
open Go.RowKit Go.ChangeShapes Go.WideShapes Go.ChangeAt Go.Deep
set_option linter.unusedVariables false
set_option linter.unusedSimpArgs false
namespace ArenaOnce
open Ar ArI KeyH Once
abbrev Nm := {n : Int // (Lit.int .i64 n).wf = true}
def hcell (h : Hd) : List Value := [.int .i64 (h.1.1 : Int), .int .i64 (h.1.2 : Int)]
theorem hcell_len (h : Hd) : (hcell h).length = 2 := rfl
theorem infoH : (Try.prog.info? 64).map (fun i => (i.zero, i.size, i.bytes)) = some (some (.agg #[.int .i64 0, .int .i64 0]), 2, 16) := by kernel_rfl
theorem zeroB (W : World) : (zeroValue 4).run Try.prog W = .ok (.bool false) W := by kernel_rfl
theorem own_cells {w : World} {base n : Nat} {e : TypeId} {size : Nat} {v : Value} {xs : List Value} (h : w.ownsRow base e size v n xs) {g : Nat} (hg : v.ownBlock = some g) : ∃ cur, w.heap[g]? = some (.cells cur e (0, 0)) := by
  rcases h.2 with ⟨rfl, _⟩ | ⟨g', cap, cur, rfl, _, hh, _⟩
  · cases hg
  · cases hg; exact ⟨cur, hh⟩
theorem is_cells {w : World} {p room : Nat} {F : Nat → Prop} {ps : List (APlace El)} {fr : List Nat} (h : Is w p F room ps fr) : ∀ b, F b → ∃ cur t, w.heap[b]? = some (.cells cur t (0, 0)) := by
  obtain ⟨A, c, B, d, ha, rfl⟩ := h
  rintro b (rfl | hb | hb)
  · exact ⟨_, _, ha.Bl⟩
  · obtain ⟨cur, hc⟩ := own_cells ha.P ((ArI.own_same A _ _ _ _).trans hb)
    exact ⟨cur, _, hc⟩
  · obtain ⟨cur, hc⟩ := own_cells ha.F ((ArI.own_same B _ _ _ _).trans hb)
    exact ⟨cur, _, hc⟩
theorem cells_hc (l : List Hd) : ∀ u ∈ l.flatMap hcell, u.oneCell' = true := by
  intro u hu
  obtain ⟨f, _, hf⟩ := List.mem_flatMap.1 hu
  simp [hcell] at hf
  rcases hf with rfl | rfl <;> rfl
theorem own_base {w : World} {b b' n : Nat} {e : TypeId} {size : Nat} {v : Value} {xs : List Value} (h : w.ownsRow b e size v n xs) (hb : b' ≤ b) : w.ownsRow b' e size v n xs := by
  refine ⟨h.1, ?_⟩
  rcases h.2 with h0 | ⟨g, cap, cur, hv, hbg, rest⟩
  · exact .inl h0
  · exact .inr ⟨g, cap, cur, hv, Nat.le_trans hb hbg, rest⟩
theorem has_pre {w : World} {e : TypeId} {size n k : Nat} {A : Option Addr} {c : Nat} {cs : List Value} (h : Has w e size (.slice A n c) n cs) (hk : k ≤ n) : Has w e size (.slice A k c) k (cs.take (k * size)) := by
  refine ⟨by rw [List.length_take, h.1]; exact Nat.min_eq_left (Nat.mul_le_mul_right _ hk), ?_⟩
  rcases h.2 with ⟨hv, h0⟩ | ⟨g, off, cap, cur, hv, hnc, hcm, hg, hc⟩
  · injection hv with hA _ hc
    subst hA hc
    have : k = 0 := by omega
    subst this
    exact .inl ⟨rfl, rfl⟩
  · injection hv with hA _ hcap
    subst hA hcap
    refine .inr ⟨g, off, c, cur, rfl, by omega, hcm, hg, fun j u hu => ?_⟩
    rw [List.getElem?_take] at hu
    split at hu
    · exact hc j u hu
    · cases hu
theorem take_flat (l : List Hd) (q : Nat) : (l.flatMap hcell).take (q * 2) = (l.take q).flatMap hcell := by
  induction l generalizing q with
  | nil => simp
  | cons a l ih =>
    cases q with
    | zero => simp
    | succ q =>
      rw [List.flatMap_cons, List.take_succ_cons, List.flatMap_cons, ← ih, show (q + 1) * 2 = (hcell a).length + q * 2 by rw [hcell_len]; omega, List.take_append, List.take_of_length_le (by omega), Nat.add_sub_cancel_left]
theorem drop_flat (l : List Hd) (q : Nat) : (l.flatMap hcell).drop (q * 2) = (l.drop q).flatMap hcell := by
  induction l generalizing q with
  | nil => simp
  | cons a l ih =>
    cases q with
    | zero => simp
    | succ q =>
      rw [List.flatMap_cons, List.drop_succ_cons, ← ih, show (q + 1) * 2 = (hcell a).length + q * 2 by rw [hcell_len]; omega, List.drop_append, List.drop_eq_nil_of_le (by omega), Nat.add_sub_cancel_left, List.nil_append]
theorem code_off {room s : Nat} {ps : List (APlace Int)} {g : Int} (h1 : s < room) (h2 : s < ps.length) : code room (ps.set s ⟨0, g, false⟩) (s : Int) g = 7 := by
  unfold code
  rw [if_neg (by omega), Int.toNat_natCast, List.getElem?_set_self h2]
  rfl
theorem nil_or_snoc {α : Type} (xs : List α) : xs = [] ∨ ∃ ys y, xs = ys ++ [y] := by
  by_cases h : xs = []
  · exact .inl h
  · exact .inr ⟨xs.dropLast, xs.getLast h, (List.dropLast_concat_getLast h).symm⟩
set_option maxRecDepth 100000 in
set_option maxHeartbeats 8000000 in
theorem walk_in (room : Nat) (A1 : Option Addr) (n1 c1 : Nat) (x1 : List Nm) (w : World) (r1 : Row (fun x : Nm => [Value.int .i64 x.1]) 1 w A1 n1 x1) (h1 : 1 ≤ room) (h2 : room ≤ 1000) (h3 : n1 ≤ 60) :
    Calls Try.prog 6 #[.int .i64 (room : Int), .slice A1 n1 c1] w fun e w' => e = .returned (.bool true) ∧ Below w.heap.size w w' := by
  obtain ⟨i0, hi0, hz0, hz1, hz2⟩ := info_parts infoH
  have h1i : (1 : Int) ≤ (room : Int) := by omega
  have hmm := @run_makeMap Try.prog
  go_enter Try.func6, Try.ntmps6
  go_wp2_with fail
  refine (ArS.awake_ok w).mono ?_
  rintro e wa ⟨rfl, ba⟩
  go_wp2_with fail
  refine (new_m room w wa ba h1 h2).mono ?_
  rintro e wb ⟨p, F, rfl, M0, _⟩
  clear ba
  have M1 := M0.keep ((Keeps.refl (fun _ => False) wb).alloc (.map #[] 0))
  have S1 := MapIs.made KeyH.kv wb
  have hmB := M0.z
  go_wp2_with fail
  clear hmm M0
  generalize hmb : wb.heap.size = mB at S1 hmB ⊢
  clear hmb
  go_loopw [8, 9] (fun v i wr => ∃ (k : Nat) (F : Nat → Prop) (ps : List (APlace Int)) (fr : List Nat) (hs : List Hd) (l : List (Hd × Value)), k ≤ n1 ∧ i = .int .i64 k ∧ Mem w p F room ps fr wr ∧ MapIs KeyH.kv wr mB l ∧ wr.ownsRow w.heap.size 64 2 v hs.length (hs.flatMap hcell) ∧ Hid (Once.Good room k ps fr hs l)) (fun _ i _ => n1 - (intOf i).toNat)
  case atStart => exact ⟨0, F, [], [], [], [], by omega, rfl, M1, S1, World.ownsRow_nil _ _ _ _, Lib.hid (Good.start room)⟩
  case round =>
    clear M1 S1
    obtain ⟨k, F, ps, fr, hs, l, hk, rfl, M, S, T, HG⟩ := hrel
    obtain ⟨A, c, hv⟩ := own_shape T
    subst hv
    have hpl : ps.length ≤ 1000 := Nat.le_trans HG.out.len h2
    have hfl : fr.length ≤ 1000 := by have := HG.out.cnt; omega
    have hsl : hs.length ≤ 60 := by have := HG.out.hk; omega
    by_cases hlt : k < n1
    · obtain ⟨bb, off, y, rfl, hy, hbl, d0⟩ := r1.at1 M.B hlt
      have hk0 : (0 : Int) ≤ (k : Int) := by omega
      have hk1 : (k : Int) < (n1 : Int) := by omega
      obtain ⟨y, hyw⟩ := y
      dsimp only at d0
      clear hy
      by_cases hA : 0 ≤ y ∧ 0 < hs.length
      · obtain ⟨m, rfl⟩ := Int.eq_ofNat_of_zero_le hA.1
        have hn0 := hA.2
        clear hA
        have hn0i : (0 : Int) < (hs.length : Int) := by omega
        generalize hqq : m % hs.length = q
        have hq : q < hs.length := by rw [← hqq]; exact Nat.mod_lt _ hn0
        have hmod : (m : Int) % (hs.length : Int) = (q : Int) := by rw [← hqq]; exact (Int.natCast_emod m hs.length).symm
        have HMOD := Lib.hid hmod
        have hqi : (q : Int) < (hs.length : Int) := by omega
        have hq0 : (0 : Int) ≤ (q : Int) := by omega
        have hm0 : (0 : Int) ≤ (m : Int) := by omega
        clear hqq
        obtain ⟨a, ha⟩ : ∃ a, hs[q]? = some a := ⟨_, List.getElem?_eq_getElem hq⟩
        obtain ⟨⟨xv, xg, xo⟩, hx, ho, hg⟩ := HG.out.on a (List.mem_of_getElem? ha)
        dsimp only at ho hg
        subst ho hg
        have HGD := Lib.hid (HG.out.freed ha hx)
        have hsl2 := (List.getElem?_eq_some_iff.1 hx).1
        have hsr : a.1.1 < room := Nat.lt_of_lt_of_le hsl2 HG.out.len
        obtain ⟨N, hN⟩ : ∃ N, hs.length = N + 1 := ⟨hs.length - 1, by omega⟩
        have T' := T
        rw [hN] at T'
        obtain ⟨gA, rfl⟩ := own_addr T'
        clear T' hN
        have e0 : wr.cell? ⟨gA, q * 2, none⟩ = some (.int .i64 (a.1.1 : Int)) := by
          rw [T.cellAt _ (by omega)]
          exact flat_at (j := 0) hcell_len ha rfl
        have e1 : wr.cell? ⟨gA, q * 2 + 1, none⟩ = some (.int .i64 (a.1.2 : Int)) := by
          rw [T.cellAt _ (by omega)]
          exact flat_at (j := 1) hcell_len ha rfl
        have ka := (Keeps.refl (fun _ => False) wr).alloc (.cells #[.int .i64 (a.1.1 : Int), .int .i64 (a.1.2 : Int)] 64)
        have M2 := M.keep ka
        have S2 := S.kept ka (fun h => h)
        have T2 := own_kept T ka (fun _ _ _ _ h => h)
        have Q : Blk (wr.alloc (.cells #[.int .i64 (a.1.1 : Int), .int .i64 (a.1.2 : Int)] 64)) wr.heap.size 64 [.int .i64 (a.1.1 : Int), .int .i64 (a.1.2 : Int)] := Blk.new wr 64 _
        have q0 := Q.cellAt (i := 0) rfl
        have q1 := Q.cellAt (i := 1) rfl
        have HX := Lib.hid hx
        have HA := Lib.hid ha
        have hmc : hs.length ≤ c := by
          rcases T.2 with ⟨_, h0⟩ | ⟨_, _, _, hv, _, _, hnc, _⟩
          · omega
          · injection hv with _ _ hc; omega
        clear M S T ka ha hx
        go_wp2_with fail
        try rw [hmod]
        clear hmod
        refine (free_ok_m a.1.1 ⟨xv, (a.1.2 : Int), true⟩ _ M2 hsr h2 hpl hfl HX.out rfl).mono ?_
        rintro e w3 ⟨rfl, ⟨F3, M3⟩, k3⟩
        have S3 := S2.kept k3 (fun hF => by obtain ⟨cur, t, hc⟩ := is_cells M2.P _ hF; exact S2.ne_cells hc rfl)
        have T3 := own_kept T2 k3 (fun g cur hg _ => M2.P.ne hg (by decide) (by decide) (by decide))
        have Q3 := Q.kept k3 (M2.P.ne Q (by decide) (by decide) (by decide))
        clear e0 e1 q0 q1 Q M2 S2 T2 k3 d0
        have q0 := Q3.cellAt (i := 0) rfl
        have q1 := Q3.cellAt (i := 1) rfl
        go_wp2_with fail
        refine (free_no_m a.1.1 (a.1.2 : Int) _ M3 h2 (by rw [List.length_set]; exact hpl) 7 (code_off hsr hsl2) (by decide)).mono ?_
        rintro e w4 ⟨rfl, M4, k4⟩
        have S4 := S3.kept k4 (fun h => h)
        have T4 := own_kept T3 k4 (fun _ _ _ _ h => h)
        clear M3 S3 T3 Q3 k4 q0 q1
        have HT := Has.of_own T4
        have HP := has_pre HT (k := q) (by omega)
        have HR := HT.cut (k := q + 1) (by omega)
        rw [take_flat] at HP
        rw [drop_flat] at HR
        have hz4 := M4.z
        have hcp := cells_hc (hs.take q)
        have hcr := cells_hc (hs.drop (q + 1))
        have HCP := Lib.hid hcp
        have HCR := Lib.hid hcr
        have hee : (hs.eraseIdx q).flatMap hcell = (hs.take q).flatMap hcell ++ (hs.drop (q + 1)).flatMap hcell := by rw [List.eraseIdx_eq_take_drop_succ, List.flatMap_append]
        have hel : (hs.eraseIdx q).length = q + (hs.length - (q + 1)) := by rw [List.length_eraseIdx, if_pos hq]; omega
        have HEE := Lib.hid hee
        have HEL := Lib.hid hel
        have hqc : (q : Int) ≤ (c : Int) := by omega
        have hwq : IntKind.i64.wrap ((q : Int) + 1) = (q : Int) + 1 := IntWalk.i64_in _ (by omega)
        have hq10 : (0 : Int) ≤ (q : Int) + 1 := by omega
        have hq11 : (q : Int) + 1 ≤ (hs.length : Int) := by omega
        have hq12 : ((q : Int) + 1).toNat = q + 1 := by omega
        clear HT hcp hcr hee hel T4
        by_cases hcc : c = q + 1
        · rw [if_pos hcc] at HR
          have hnq : hs.length - (q + 1) = 0 := by omega
          have hcq : c - (q + 1) = 0 := by omega
          rw [hnq, hcq] at HR
          subst hcc
          clear hcq
          have hqc2 : (q : Int) ≤ (q : Int) + 1 := by omega
          have hqc3 : (q : Int) ≤ ((q + 1 : Nat) : Int) := by omega
          go_wp2_with fail
          go_region_law (first | (refine step_append_has rfl (.tmp 76) (.tmp 79) 62 rfl i0 _ 16 Try.underlying62 hi0 hz0 hz1 hz2 rfl (by omega) (by simp [Act.eval, Act.put]) (own_empty w4 w4.heap.size 64 2 (Nat.le_refl _)).drew (some ⟨gA, 0, none⟩) q (q + 1) ((hs.take q).flatMap hcell) (by simp [Act.eval, Act.put]) (HP.kept (((Keeps.refl (fun _ => False) w4).alloc (.cells #[] 64)).drew) (fun _ _ _ _ h => h)) HCP.out (by unfold maxLen; omega) (by omega) (by simp) ?_; intro v5 w5 own5 g5 at5; obtain ⟨A5, c5, hv5⟩ := own_shape own5; subst hv5; simp only [Nat.zero_add, List.nil_append] at own5; have G5 : (w4.alloc (.cells #[] 64)).grownBy w5 (some w4.heap.size) := ⟨g5.os, g5.tape, g5.output, g5.size, g5.block⟩; have K5 : Keeps (fun _ => False) w4 w5 := keeps_grown ((Keeps.refl _ w4).alloc _) G5 (fun g hg => .inr (by cases hg; exact Nat.le_refl _)); clear g5 at5 G5) | (refine step_append_has rfl (.tmp 80) (.tmp 84) 62 rfl i0 _ 16 Try.underlying62 hi0 hz0 hz1 hz2 rfl (by omega) (by simp [Act.eval, Act.put]) own5 (some ⟨gA, 0, none⟩) 0 0 ((hs.drop (q + 1)).flatMap hcell) (by simp [Act.eval, Act.put]) (HR.kept K5 (fun _ _ _ _ h => h)) HCR.out (by unfold maxLen; omega) (by omega) (Nat.le_trans (Nat.le_refl _) K5.size) ?_; intro v6 w6 own6 g6 at6; obtain ⟨A6, c6, hv6⟩ := own_shape own6; subst hv6; have K6 : Keeps (fun _ => False) w4 w6 := keeps_grown K5 g6 (fun g hg => .inr (own5.lt g hg).1); clear g6 at6 own5 K5))
          have M6 := M4.keep K6
          have S6 := S4.kept K6 (fun h => h)
          have T6 := own_base own6 hz4
          clear M4 S4 K6 own6 HP HR
          go_wp2_with fail
          go_roundw
          case rel => exact ⟨k + 1, F3, _, _, hs.eraseIdx q, l, by omega, by go_num, M6, S6, by rw [HEE.out, HEL.out]; rw [hnq]; exact T6, HGD⟩
          case measure => simp [intOf]; omega
        · rw [if_neg hcc] at HR
          have had : (some (⟨gA, 0, none⟩ : Addr)).map (·.add ((q + 1) * 2)) = some ⟨gA, (q + 1) * 2, none⟩ := by simp [Addr.add]
          rw [had] at HR
          clear had
          go_wp2_with fail
          go_region_law (first | (refine step_append_has rfl (.tmp 76) (.tmp 79) 62 rfl i0 _ 16 Try.underlying62 hi0 hz0 hz1 hz2 rfl (by omega) (by simp [Act.eval, Act.put]) (own_empty w4 w4.heap.size 64 2 (Nat.le_refl _)).drew (some ⟨gA, 0, none⟩) q c ((hs.take q).flatMap hcell) (by simp [Act.eval, Act.put]) (HP.kept (((Keeps.refl (fun _ => False) w4).alloc (.cells #[] 64)).drew) (fun _ _ _ _ h => h)) HCP.out (by unfold maxLen; omega) (by omega) (by simp) ?_; intro v5 w5 own5 g5 at5; obtain ⟨A5, c5, hv5⟩ := own_shape own5; subst hv5; simp only [Nat.zero_add, List.nil_append] at own5; have G5 : (w4.alloc (.cells #[] 64)).grownBy w5 (some w4.heap.size) := ⟨g5.os, g5.tape, g5.output, g5.size, g5.block⟩; have K5 : Keeps (fun _ => False) w4 w5 := keeps_grown ((Keeps.refl _ w4).alloc _) G5 (fun g hg => .inr (by cases hg; exact Nat.le_refl _)); clear g5 at5 G5) | (refine step_append_has rfl (.tmp 80) (.tmp 84) 62 rfl i0 _ 16 Try.underlying62 hi0 hz0 hz1 hz2 rfl (by omega) (by simp [Act.eval, Act.put]) own5 (some ⟨gA, (q + 1) * 2, none⟩) (hs.length - (q + 1)) (c - (q + 1)) ((hs.drop (q + 1)).flatMap hcell) (by simp [Act.eval, Act.put]) (HR.kept K5 (fun _ _ _ _ h => h)) HCR.out (by unfold maxLen; omega) (by omega) (Nat.le_trans (Nat.le_refl _) K5.size) ?_; intro v6 w6 own6 g6 at6; obtain ⟨A6, c6, hv6⟩ := own_shape own6; subst hv6; have K6 : Keeps (fun _ => False) w4 w6 := keeps_grown K5 g6 (fun g hg => .inr (own5.lt g hg).1); clear g6 at6 own5 K5))
          have M6 := M4.keep K6
          have S6 := S4.kept K6 (fun h => h)
          have T6 := own_base own6 hz4
          clear M4 S4 K6 own6 HP HR
          go_wp2_with fail
          go_roundw
          case rel => exact ⟨k + 1, F3, _, _, hs.eraseIdx q, l, by omega, by go_num, M6, S6, by rw [HEE.out, HEL.out]; exact T6, HGD⟩
          case measure => simp [intOf]; omega
      · have hB : y < 0 ∨ (0 ≤ y ∧ hs.length ≤ 0) := by omega
        clear hA
        rcases nil_or_snoc fr with hfr | ⟨fr', j, hfr⟩
        · subst hfr
          by_cases hfull : room ≤ ps.length
          · have hnr : ((hs.length : Int) != (room : Int)) = false := by have := HG.out.cnt; have := HG.out.len; simp at *; omega
            have HGD := Lib.hid HG.out.skip
            rcases hB with hB | ⟨hB, hB2⟩
            all_goals
              go_wp2_with fail
              refine (put_full_m (k : Int) _ M hfull hpl).mono ?_
              rintro e w1 ⟨rfl, M1, k1⟩
              have ka := k1.alloc (.cells #[.int .i64 0, .int .i64 0] 64)
              have M2 := M.keep ka
              have S2 := S.kept ka (fun h => h)
              have T2 := own_kept T ka (fun _ _ _ _ h => h)
              clear M S T k1 M1 ka
              go_wp2_with fail
              go_roundw
              case rel => exact ⟨k + 1, F, ps, [], hs, l, by omega, by go_num, M2, S2, T2, HGD⟩
              case measure => simp [intOf]; omega
          · obtain ⟨hno, hgd⟩ := HG.out.new (by omega) (k : Int) (.bool true) hpl
            have HNO := Lib.hid hno
            have HGD := Lib.hid hgd
            clear hno hgd
            rcases hB with hB | ⟨hB, hB2⟩
            all_goals
              go_wp2_with fail
              refine (put_new_m (n := ps.length) (k : Int) _ M rfl (by omega) h2).mono ?_
              rintro e w1 ⟨rfl, ⟨F1, M1⟩, k1⟩
              have S1 := S.kept k1 (fun hF => by obtain ⟨cur, t, hc⟩ := is_cells M.P _ hF; exact S.ne_cells hc rfl)
              have T1 := own_kept T k1 (fun g cur hg _ => M.P.ne hg (by decide) (by decide) (by decide))
              clear M S T k1
              have ka := (Keeps.refl (fun _ => False) w1).alloc (.cells #[.int .i64 (ps.length : Int), .int .i64 1] 64)
              have M2 := M1.keep ka
              have S2 := S1.kept ka (fun h => h)
              have T2 := T1.alloc (.cells #[.int .i64 (ps.length : Int), .int .i64 1] 64)
              have Q : Blk (w1.alloc (.cells #[.int .i64 (ps.length : Int), .int .i64 1] 64)) w1.heap.size 64 [.int .i64 (ps.length : Int), .int .i64 1] := Blk.new w1 64 _
              have q0 := Q.cellAt (i := 0) rfl
              have q1 := Q.cellAt (i := 1) rfl
              have hlk := S2.lookup (T := 61) key_handle Try.underlying61 (zeroB _) (hand ps.length 1 hpl (by decide)) false
              rw [HNO.out] at hlk
              have hlk' : (Instr.lookup 61 (.map (some mB)) (.agg #[.int .i64 (ps.length : Int), .int .i64 1]) false).run Try.prog (w1.alloc (.cells #[.int .i64 (ps.length : Int), .int .i64 1] 64)) = .ok (.bool false) (w1.alloc (.cells #[.int .i64 (ps.length : Int), .int .i64 1] 64)) := hlk
              clear M1 S1 T1 ka hlk
              generalize hw2 : w1.alloc (.cells #[.int .i64 (ps.length : Int), .int .i64 1] 64) = w2 at *
              generalize hsz : w1.heap.size = Qb at *
              have hz := M2.z
              go_wp2_with (first | (at_mapUpdate; refine wpList_update_is S2 key_handle Try.underlying61 rfl (.tmp 105) (.tmp 106) (.const (.bool true)) rfl (hand ps.length 1 hpl (by decide)) (.bool true) rfl rfl rfl ?_; intro w3 S3 k3; have M3 := M2.other k3 (fun b hb e => (by obtain ⟨cur, t, hc⟩ := is_cells M2.P _ hb; exact S2.ne_cells hc e)) (fun b e => e ▸ hmB); have T3 := own_kept T2 k3 (fun g cur hg _ e => S2.ne_cells hg e); have Q3 := Q.kept k3 (fun e => S2.ne_blk Q e.symm); have r0 := Q3.cellAt (i := 0) rfl; have r1 := Q3.cellAt (i := 1) rfl; have z3 := M3.z; clear hlk' q0 q1 k3 M2 T2 Q hz) | (at_builtin; refine wpList_append_has rfl (.tmp 107) (.tmp 109) 62 rfl i0 _ 16 Try.underlying62 hi0 hz0 hz1 hz2 rfl (by omega) rfl (T3.alloc _) (some ⟨w3.heap.size, 0, none⟩) 1 1 [.int .i64 (ps.length : Int), .int .i64 1] rfl (Has.box w3 64 2 1 [.int .i64 (ps.length : Int), .int .i64 1] rfl (by unfold maxLen; omega)) (by intro u hu; simp at hu; rcases hu with rfl | rfl <;> rfl) (by unfold maxLen; omega) (by omega) (by simp; omega) ?_; intro v5 w5 own5 g5 at5))
              have hbl : ∀ b, (Value.slice A hs.length c).ownBlock = some b → ∃ cur, w3.heap[b]? = some (.cells cur 64 (0, 0)) := fun b hb => own_cells T3 hb
              have kg := keeps_grown ((Keeps.refl (fun b => (Value.slice A hs.length c).ownBlock = some b) w3).alloc (.cells #[.int .i64 (ps.length : Int), .int .i64 1] 64)) g5 (fun g hg => .inl hg)
              have M5 := M3.other kg (fun b hb hg => by obtain ⟨cur, hc⟩ := hbl b hg; exact M3.P.ne hc (by decide) (by decide) (by decide) hb) (fun b hb => (T3.lt b hb).1)
              have S5 := S3.kept kg (fun hg => by obtain ⟨cur, hc⟩ := hbl mB hg; exact S3.ne_cells hc rfl)
              clear g5 at5 kg hbl M3 S3 T3 Q3 r0 r1 hw2 hsz
              go_wp2_with fail
              go_roundw
              case rel => exact ⟨k + 1, F1, _, _, hs ++ [(hand ps.length 1 hpl (by decide))], _, by omega, by go_num, M5, S5, by have e : (hs ++ [(hand ps.length 1 hpl (by decide))]).flatMap hcell = hs.flatMap hcell ++ [.int .i64 (ps.length : Int), .int .i64 1] := (by rw [List.flatMap_append]; rfl); have e2 : (hs ++ [(hand ps.length 1 hpl (by decide))]).length = hs.length + 1 := (by simp); rw [e, e2]; exact own5, HGD⟩
              case measure => simp [intOf]; omega
        · subst hfr
          obtain ⟨x, hx, hxo⟩ := HG.out.off j (by simp)
          have hgx := HG.out.gen x (List.mem_of_getElem? hx)
          obtain ⟨g, hg⟩ : ∃ g : Nat, x.g = (g : Int) := ⟨x.g.toNat, by omega⟩
          have hjl := (List.getElem?_eq_some_iff.1 hx).1
          have hj1 : j ≤ 1000 := by omega
          have hg1 : g + 1 ≤ 1000000 := by omega
          obtain ⟨hno, hgd⟩ := HG.out.reuse hx hg (k : Int) (.bool true) hj1 hg1
          have HNO := Lib.hid hno
          have HGD := Lib.hid hgd
          have HX := Lib.hid hx
          have hgb : 0 ≤ x.g ∧ x.g ≤ 1000000 := by omega
          have HGB := Lib.hid hgb
          have HGG := Lib.hid hg
          have hfl' : fr'.length ≤ 1000 := by simp at hfl; omega
          clear hno hgd hx hgb hgx
          rcases hB with hB | ⟨hB, hB2⟩
          all_goals
            go_wp2_with fail
            refine (put_free_m (k : Int) j x _ M HX.out HGB.out hpl hfl').mono ?_
            rintro e w1 ⟨rfl, M1, k1⟩
            rw [HGG.out]
            have S1 := S.kept k1 (fun hF => by obtain ⟨cur, t, hc⟩ := is_cells M.P _ hF; exact S.ne_cells hc rfl)
            have T1 := own_kept T k1 (fun g cur hg _ => M.P.ne hg (by decide) (by decide) (by decide))
            clear M S T k1
            have ka := (Keeps.refl (fun _ => False) w1).alloc (.cells #[.int .i64 (j : Int), .int .i64 ((g : Int) + 1)] 64)
            have M2 := M1.keep ka
            have S2 := S1.kept ka (fun h => h)
            have T2 := T1.alloc (.cells #[.int .i64 (j : Int), .int .i64 ((g : Int) + 1)] 64)
            have Q : Blk (w1.alloc (.cells #[.int .i64 (j : Int), .int .i64 ((g : Int) + 1)] 64)) w1.heap.size 64 [.int .i64 (j : Int), .int .i64 ((g : Int) + 1)] := Blk.new w1 64 _
            have q0 := Q.cellAt (i := 0) rfl
            have q1 := Q.cellAt (i := 1) rfl
            have hlk := S2.lookup (T := 61) key_handle Try.underlying61 (zeroB _) (hand j (g + 1) hj1 hg1) false
            rw [HNO.out] at hlk
            have hlk' : (Instr.lookup 61 (.map (some mB)) (.agg #[.int .i64 (j : Int), .int .i64 ((g : Int) + 1)]) false).run Try.prog (w1.alloc (.cells #[.int .i64 (j : Int), .int .i64 ((g : Int) + 1)] 64)) = .ok (.bool false) (w1.alloc (.cells #[.int .i64 (j : Int), .int .i64 ((g : Int) + 1)] 64)) := hlk
            clear M1 S1 T1 ka hlk
            generalize hw2 : w1.alloc (.cells #[.int .i64 (j : Int), .int .i64 ((g : Int) + 1)] 64) = w2 at *
            generalize hsz : w1.heap.size = Qb at *
            have hz := M2.z
            go_wp2_with (first | (at_mapUpdate; refine wpList_update_is S2 key_handle Try.underlying61 rfl (.tmp 105) (.tmp 106) (.const (.bool true)) rfl (hand j (g + 1) hj1 hg1) (.bool true) rfl rfl rfl ?_; intro w3 S3 k3; have M3 := M2.other k3 (fun b hb e => (by obtain ⟨cur, t, hc⟩ := is_cells M2.P _ hb; exact S2.ne_cells hc e)) (fun b e => e ▸ hmB); have T3 := own_kept T2 k3 (fun g cur hg _ e => S2.ne_cells hg e); have Q3 := Q.kept k3 (fun e => S2.ne_blk Q e.symm); have r0 := Q3.cellAt (i := 0) rfl; have r1 := Q3.cellAt (i := 1) rfl; have z3 := M3.z; clear hlk' q0 q1 k3 M2 T2 Q hz) | (at_builtin; refine wpList_append_has rfl (.tmp 107) (.tmp 109) 62 rfl i0 _ 16 Try.underlying62 hi0 hz0 hz1 hz2 rfl (by omega) rfl (T3.alloc _) (some ⟨w3.heap.size, 0, none⟩) 1 1 [.int .i64 (j : Int), .int .i64 ((g : Int) + 1)] rfl (Has.box w3 64 2 1 [.int .i64 (j : Int), .int .i64 ((g : Int) + 1)] rfl (by unfold maxLen; omega)) (by intro u hu; simp at hu; rcases hu with rfl | rfl <;> rfl) (by unfold maxLen; omega) (by omega) (by simp; omega) ?_; intro v5 w5 own5 g5 at5))
            have hbl : ∀ b, (Value.slice A hs.length c).ownBlock = some b → ∃ cur, w3.heap[b]? = some (.cells cur 64 (0, 0)) := fun b hb => own_cells T3 hb
            have kg := keeps_grown ((Keeps.refl (fun b => (Value.slice A hs.length c).ownBlock = some b) w3).alloc (.cells #[.int .i64 (j : Int), .int .i64 ((g : Int) + 1)] 64)) g5 (fun g hg => .inl hg)
            have M5 := M3.other kg (fun b hb hg => by obtain ⟨cur, hc⟩ := hbl b hg; exact M3.P.ne hc (by decide) (by decide) (by decide) hb) (fun b hb => (T3.lt b hb).1)
            have S5 := S3.kept kg (fun hg => by obtain ⟨cur, hc⟩ := hbl mB hg; exact S3.ne_cells hc rfl)
            clear g5 at5 kg hbl M3 S3 T3 Q3 r0 r1 hw2 hsz
            go_wp2_with fail
            go_roundw
            case rel => exact ⟨k + 1, F, _, _, hs ++ [(hand j (g + 1) hj1 hg1)], _, by omega, by go_num, M5, S5, by have e : (hs ++ [(hand j (g + 1) hj1 hg1)]).flatMap hcell = hs.flatMap hcell ++ [.int .i64 (j : Int), .int .i64 ((g : Int) + 1)] := (by rw [List.flatMap_append]; rfl); have e2 : (hs ++ [(hand j (g + 1) hj1 hg1)]).length = hs.length + 1 := (by simp); rw [e, e2]; exact own5, HGD⟩
            case measure => simp [intOf]; omega
    · obtain ⟨Ax, cx, Bx, dx, hax, _⟩ := M.P
      have hcnt := HG.out.cnt
      go_wp2_with fail
      refine (len_any p Ax cx Bx dx room _ _ hs.length _ hax hpl hfl hcnt).mono ?_
      rintro e w5 ⟨rfl, D5⟩
      have M5 := M.keep (D5.keeps _)
      go_wp2_with fail
      go_ret
      exact ⟨rfl, M5.B⟩
set_option maxHeartbeats 1000000 in
theorem walk_out (room : Int) (A1 : Option Addr) (n1 c1 : Nat) (w : World) (hm : n1 ≤ 9223372036854775807) (h : ¬ (1 ≤ room ∧ room ≤ 1000 ∧ n1 ≤ 60)) :
    Calls Try.prog 6 #[.int .i64 room, .slice A1 n1 c1] w fun e w' => e = .returned (.bool true) ∧ Below w.heap.size w w' := by
  go_enter Try.func6, Try.ntmps6
  go_wp2_with fail
  refine (ArS.awake_ok w).mono ?_
  rintro e wa ⟨rfl, ba⟩
  by_cases h1 : room < 1
  · clear h
    go_wp2_with fail
    go_ret
    exact ⟨rfl, ba⟩
  · by_cases h2 : 1000 < room
    · clear h
      go_wp2_with fail
      go_ret
      exact ⟨rfl, ba⟩
    · have h3 : 60 < n1 := by omega
      clear h
      go_wp2_with fail
      go_ret
      exact ⟨rfl, ba⟩
theorem walk (room : Int) (A1 : Option Addr) (n1 c1 : Nat) (x1 : List Nm) (w : World) (w0 : (Lit.int .i64 room).wf = true) (r1 : Row (fun x : Nm => [Value.int .i64 x.1]) 1 w A1 n1 x1) :
    Calls Try.prog 6 #[.int .i64 room, .slice A1 n1 c1] w fun e w' => e = .returned (.bool true) ∧ Below w.heap.size w w' := by
  by_cases h : 1 ≤ room ∧ room ≤ 1000 ∧ n1 ≤ 60
  · obtain ⟨r, rfl⟩ := Int.eq_ofNat_of_zero_le (show 0 ≤ room by omega)
    exact walk_in r A1 n1 c1 x1 w r1 (by omega) (by omega) h.2.2
  · have m1 := r1.2.1
    unfold maxLen at m1
    exact walk_out room A1 n1 c1 w m1 h
theorem own : ownKnob Try.prog.godebug = none := by kernel_rfl
theorem laidOut : laidOutB Try.prog = true := by kernel_rfl
set_option maxRecDepth 100000 in
theorem lifted (os : Os) (started : os.Started) (H : Type) (enc : TypeId × Value → H) :
    ReturnsInHanded {} Try.checked os 6 .any (Rows.arenaOnceSpec.pre6 enc Try.prog Try.f6 Rows.arenaOnceRow.domain false) (Rows.arenaOnceSpec.post enc Try.prog Try.f6 false true false false) := by
  refine returnsInHanded_of_change (C := Try.checked) own started (by kernel_rfl) Try.func6
    (ChangeSpec.witness6 (enc := enc) (C := Try.checked) false ⟨#[], #[.int .i64 0, .slice none 0 0], []⟩ 8 (by kernel_rfl) (by kernel_rfl) (by kernel_rfl) (by kernel_rfl)) ?_
  intro W base args ds gs before hval0 hW hcnd _
  have hval : ∀ (j : Nat) t v, Try.f6.params[j]? = some t → args[j]? = some v → Value.okWide Try.prog W .any base t v := hval0
  have hW' := hW
  obtain ⟨p, q, hA0, hV, rfl, hfz, hnd⟩ := hW
  have hA : DataW.TrodAll enc Try.prog W 0 (fun _ => true) true Try.f6.params.toList args.toList ds p := hA0
  rw [Try.params6] at hA hval
  obtain ⟨v0, vs0, d0, ds0, p0, q0, hargs, rfl, rfl, h0, r0⟩ := trodAll_cons hA
  obtain ⟨v1, vs1, d1, ds1, p1, q1, rfl, rfl, rfl, h1, r1⟩ := trodAll_cons r0
  obtain ⟨rfl, rfl, rfl⟩ := trodAll_nil r1
  obtain rfl : args = #[v0, v1] := by cases args; simp_all
  obtain ⟨rfl, rfl⟩ := trodVars_none hV
  obtain ⟨a0, rfl, rfl, rfl, w0⟩ := open_int Try.underlying3 (hval 0 3 v0 rfl rfl) h0
  obtain ⟨A1, n1, c1, rfl⟩ := okWide_slice Try.underlying37 (hval 1 37 v1 rfl rfl)
  have k1 := h1
  have lt1 : ∀ x ∈ p1, x.block < W.heap.size := by obtain ⟨m, hm⟩ := k1; exact DataW.trod_lt m _ _ _ hm
  obtain ⟨x1, w1⟩ : ∃ xs, Row (fun x : {n : Int // (Lit.int .i64 n).wf = true} => [Value.int .i64 x.1]) 1 W A1 n1 xs := by
    obtain ⟨fuel, hf⟩ := h1
    exact open_row _ 1 (by omega) Try.underlying37 (by kernel_rfl) (el_int Try.underlying3) (by simpa [Value.cells] using hf)
  clear hA0 hval0
  refine (walk a0 A1 n1 c1 x1 W w0 w1).mono fun e W' ⟨he, bel⟩ => ?_
  subst he
  exact ⟨_, rfl, _, _, _, [], _, [], hW', trodAll_mk1 (shut_bool Try.underlying4 _), (trodAll_cons_mk (shut_int Try.underlying3 w0) (trodAll_cons_mk (Below.trod laidOut (by kernel_rfl) (of_decide_eq_true (by kernel_rfl)) k1 bel lt1) trodAll_mk0)), rfl, bel.frame _, fun h => by cases h⟩
theorem over : Rows.arenaOnceRow.holds Try.pinned (OpenSpec.ofChange Rows.arenaOnceSpec) :=
  OpenClaim.holds_of_wide 6 Try.f6 rfl rfl rfl rfl rfl rfl rfl ⟨rfl, rfl, rfl, rfl, rfl⟩ rfl rfl rfl rfl rfl (by kernel_rfl) Try.func6 (by kernel_rfl)
    (of_decide_eq_true (by kernel_rfl)) (by unfold Func.isWrapper; first | (rw [if_pos (by decide +kernel)]; kernel_rfl) | (rw [if_neg (by decide +kernel)]; exact ⟨rfl, rfl⟩))
    (fun os started H enc _ => lifted os started H enc)
/-- The statement. -/
theorem proved : Rows.ArenaOnceSaid := over
#print axioms proved
end ArenaOnce
end Go.Proofs.Ytpfhogbkbodfjaa
