/- The law ArenaFull returns true at every input. Conditions: none. -/
import Derived.Test.YtpfhogbkbodfjaaAwake4
import Derived.Test.YtpfhogbkbodfjaaArIIs
import Derived.Test.YtpfhogbkbodfjaaArILen
import Derived.Test.YtpfhogbkbodfjaaArgs
namespace Go.Proofs.Ytpfhogbkbodfjaa
open Go.RowKit Go.ChangeShapes Go.WideShapes Go.ChangeAt Go.Deep
set_option linter.unusedVariables false
set_option linter.unusedSimpArgs false
namespace ArenaFull
open Ar ArI
def fulls (k : Nat) : List (APlace Int) := (List.range k).map fun (i : Nat) => ⟨(i : Int), 1, true⟩
theorem fulls_len (k : Nat) : (fulls k).length = k := by simp [fulls]
theorem fulls_next (k : Nat) : fulls k ++ [⟨(k : Int), 1, true⟩] = fulls (k + 1) := by simp [fulls, List.range_succ]
theorem fulls_at {k i : Nat} (h : i < k) : (fulls k)[i]? = some ⟨(i : Int), 1, true⟩ := by simp [fulls, h]
def hc (i : Nat) : List Value := [.int .i64 (i : Int), .int .i64 1]
theorem hc_len (i : Nat) : (hc i).length = 2 := rfl
theorem hc_next (k : Nat) : (List.range k).flatMap hc ++ hc k = (List.range (k + 1)).flatMap hc := by rw [List.range_succ, List.flatMap_append]; simp
theorem infoH : (Try.prog.info? 64).map (fun i => (i.zero, i.size, i.bytes)) = some (some (.agg #[.int .i64 0, .int .i64 0]), 2, 16) := by kernel_rfl
theorem own_cells {w : World} {base n : Nat} {e : TypeId} {size : Nat} {v : Value} {xs : List Value} (h : w.ownsRow base e size v n xs) {g : Nat} (hg : v.ownBlock = some g) : ∃ cur, w.heap[g]? = some (.cells cur e (0, 0)) := by
  rcases h.2 with ⟨rfl, _⟩ | ⟨g', cap, cur, rfl, _, hh, _⟩
  · cases hg
  · cases hg; exact ⟨cur, hh⟩
set_option maxRecDepth 100000 in
set_option maxHeartbeats 4000000 in
theorem walk_in (room m : Nat) (w : World) (h1 : 1 ≤ room) (h2 : room ≤ 300) (hm : (m : Int) ≤ 9223372036854775807) :
    Calls Try.prog 7 #[.int .i64 (room : Int), .int .i64 (m : Int)] w fun e w' => e = .returned (.bool true) ∧ Below w.heap.size w w' := by
  obtain ⟨i0, hi0, hz0, hz1, hz2⟩ := info_parts infoH
  have h1i : (1 : Int) ≤ (room : Int) := by omega
  have hm0 : (0 : Int) ≤ (m : Int) := by omega
  go_enter Try.func7, Try.ntmps7
  go_wp2_with fail
  refine (ArS.awake_ok w).mono ?_
  rintro e wa ⟨rfl, ba⟩
  go_wp2_with fail
  refine (new_m room w wa ba h1 (by omega)).mono ?_
  rintro e wb ⟨p, F, rfl, M1, _⟩
  clear ba
  go_wp2_with fail
  go_loopw [7, 8] (fun v i wr => ∃ (k : Nat) (F : Nat → Prop), k ≤ room ∧ i = .int .i64 k ∧ Mem w p F room (fulls k) [] wr ∧ wr.ownsRow w.heap.size 64 2 v k ((List.range k).flatMap hc)) (fun _ i _ => room - (intOf i).toNat)
  case atStart => exact ⟨0, F, by omega, rfl, M1, World.ownsRow_nil _ _ _ _⟩
  case round =>
    clear M1
    obtain ⟨k, F, hk, rfl, M, HO⟩ := hrel
    by_cases hlt : k < room
    · have hlti : (k : Int) < (room : Int) := by omega
      have hne := fun W => handle_ne (k : Int) 1 W
      go_wp2_with fail
      refine (put_new_m (n := k) (k : Int) _ M (fulls_len k) hlt (by omega)).mono ?_
      rintro e w1 ⟨rfl, ⟨F1, M1⟩, k1⟩
      have O1 := own_kept HO k1 (fun g cur hg _ => M.P.ne hg (by decide) (by decide) (by decide))
      rw [fulls_next] at M1
      clear M HO k1
      have M2 := M1.keep ((Keeps.refl (fun _ => False) w1).alloc (.cells #[.int .i64 (k : Int), .int .i64 1] 64))
      have O2 := O1.alloc (.cells #[.int .i64 (k : Int), .int .i64 1] 64)
      have Q := Blk.new w1 64 [.int .i64 (k : Int), .int .i64 1]
      have q0 : (w1.alloc (.cells #[.int .i64 (k : Int), .int .i64 1] 64)).cell? ⟨w1.heap.size, 0, none⟩ = some (.int .i64 (k : Int)) := Q.cellAt (i := 0) rfl
      have q1 : (w1.alloc (.cells #[.int .i64 (k : Int), .int .i64 1] 64)).cell? ⟨w1.heap.size, 1, none⟩ = some (.int .i64 1) := Q.cellAt (i := 1) rfl
      clear M1 O1 Q
      generalize hw2 : w1.alloc (.cells #[.int .i64 (k : Int), .int .i64 1] 64) = w2 at *
      have hz := M2.z
      go_wp2_with (at_builtin; refine wpList_append_has rfl (.tmp 55) (.tmp 57) 62 rfl i0 _ 16 Try.underlying62 hi0 hz0 hz1 hz2 rfl (by omega) rfl (O2.alloc _) (some ⟨w2.heap.size, 0, none⟩) 1 1 [.int .i64 (k : Int), .int .i64 1] rfl (Has.box w2 64 2 1 [.int .i64 (k : Int), .int .i64 1] rfl (by unfold maxLen; omega)) (by intro u hu; simp at hu; rcases hu with rfl | rfl <;> rfl) (by unfold maxLen; omega) (by omega) (by simp; omega) ?_; intro v5 w5 own5 g5 at5)
      have M5 := M2.other (keeps_grown ((Keeps.refl _ w2).alloc (.cells #[.int .i64 (k : Int), .int .i64 1] 64)) g5 (fun g hg => .inl hg)) (fun b hb hg => by
        obtain ⟨cur, hc⟩ := own_cells O2 hg
        exact M2.P.ne hc (by decide) (by decide) (by decide) hb) (fun b hb => (O2.lt b hb).1)
      clear g5 at5 M2 O2 hw2 q0 q1
      go_wp2_with fail
      go_roundw
      case rel => exact ⟨k + 1, F1, by omega, by go_num, M5, by rw [← hc_next]; exact own5⟩
      case measure => simp [intOf]; omega
    · obtain rfl : k = room := by omega
      obtain ⟨A, c, hv⟩ := own_shape HO
      subst hv
      obtain ⟨K, rfl⟩ : ∃ K, k = K + 1 := ⟨k - 1, by omega⟩
      obtain ⟨g, rfl⟩ := own_addr HO
      generalize hkk : m % (K + 1) = q
      have hq : q < K + 1 := by rw [← hkk]; exact Nat.mod_lt _ (by omega)
      have hmod : (m : Int) % ((K + 1 : Nat) : Int) = (q : Int) := by rw [← hkk]; exact (Int.natCast_emod m (K + 1)).symm
      have HMOD := Lib.hid hmod
      have hqi : (q : Int) < ((K + 1 : Nat) : Int) := by omega
      have hq0 : (0 : Int) ≤ (q : Int) := by omega
      have heq := fun W => handle_eq (q : Int) 2 W
      clear hkk hmod
      generalize hn : K + 1 = n at *
      clear hn
      go_wp2_with fail
      refine (put_full_m 9 _ M (by rw [fulls_len]; omega) (by rw [fulls_len]; omega)).mono ?_
      rintro e w1 ⟨rfl, M1, k1⟩
      have M2 := M1.keep ((Keeps.refl (fun _ => False) w1).alloc (.cells #[.int .i64 0, .int .i64 0] 64))
      have O2 := (own_kept HO k1 (fun _ _ _ _ h => h)).alloc (.cells #[.int .i64 0, .int .i64 0] 64)
      have hmod := HMOD.out
      have e0 : (w1.alloc (.cells #[.int .i64 0, .int .i64 0] 64)).cell? ⟨g, q * 2, none⟩ = some (.int .i64 (q : Int)) := by
        rw [O2.cellAt _ (by omega)]
        exact flat_at (j := 0) hc_len (List.getElem?_range hq) rfl
      have e1 : (w1.alloc (.cells #[.int .i64 0, .int .i64 0] 64)).cell? ⟨g, q * 2 + 1, none⟩ = some (.int .i64 1) := by
        rw [O2.cellAt _ (by omega)]
        exact flat_at (j := 1) hc_len (List.getElem?_range hq) rfl
      clear M M1 HO k1
      go_wp2_with fail
      rw [hmod]
      refine (free_ok_m q ⟨(q : Int), 1, true⟩ _ M2 hq (by omega) (by rw [fulls_len]; omega) (by simp) (fulls_at hq) rfl).mono ?_
      rintro e w3 ⟨rfl, ⟨F3, M3⟩, _⟩
      clear hmod e0 e1 M2 O2
      have hl3 : ((fulls n).set q ⟨0, 1, false⟩).length = n := by rw [List.length_set, fulls_len]
      go_wp2_with fail
      refine (put_free_m (fr := []) 7 q ⟨0, 1, false⟩ _ M3 (List.getElem?_set_self (by rw [fulls_len]; exact hq)) (by decide) (by rw [hl3]; omega) (by simp)).mono ?_
      rintro e w4 ⟨rfl, M4, _⟩
      rw [List.set_set] at M4
      clear M3 hl3
      have M5 := M4.keep ((Keeps.refl (fun _ => False) w4).alloc (.cells #[.int .i64 (q : Int), .int .i64 2] 64))
      have Q := Blk.new w4 64 [.int .i64 (q : Int), .int .i64 2]
      clear M4
      have hl5 : ((fulls n).set q ⟨7, 1 + 1, true⟩).length = n := by rw [List.length_set, fulls_len]
      go_wp2_with fail
      refine (get_ok_m q ⟨7, 2, true⟩ _ M5 hq (by omega) (by rw [hl5]; omega) (List.getElem?_set_self (by rw [fulls_len]; exact hq)) rfl).mono ?_
      rintro e w6 ⟨rfl, M6, k6⟩
      have Q6 := Q.kept k6 (fun h => h)
      have q0 := Q6.cellAt (i := 0) rfl
      have q1 := Q6.cellAt (i := 1) rfl
      clear M5 Q k6
      go_wp2_with fail
      obtain ⟨A', c', B', d', ha, _⟩ := M6.P
      refine (len_any p A' c' B' d' n _ _ n _ ha (by rw [hl5]; omega) (by simp) (by rw [hl5]; rfl)).mono ?_
      rintro e w7 ⟨rfl, D7⟩
      have M7 := M6.keep (D7.keeps _)
      go_wp2_with fail
      go_ret
      exact ⟨rfl, M7.B⟩
set_option maxHeartbeats 1000000 in
theorem walk_out (room m : Int) (w : World) (h : ¬ (1 ≤ room ∧ room ≤ 300 ∧ 0 ≤ m)) :
    Calls Try.prog 7 #[.int .i64 room, .int .i64 m] w fun e w' => e = .returned (.bool true) ∧ Below w.heap.size w w' := by
  go_enter Try.func7, Try.ntmps7
  go_wp2_with fail
  refine (ArS.awake_ok w).mono ?_
  rintro e wa ⟨rfl, ba⟩
  by_cases h1 : room < 1
  · clear h
    go_wp2_with fail
    go_ret
    exact ⟨rfl, ba⟩
  · by_cases h2 : 300 < room
    · clear h
      go_wp2_with fail
      go_ret
      exact ⟨rfl, ba⟩
    · have h3 : m < 0 := by omega
      clear h
      go_wp2_with fail
      go_ret
      exact ⟨rfl, ba⟩
theorem walk (room m : Int) (w : World) (w0 : (Lit.int .i64 room).wf = true) (w1 : (Lit.int .i64 m).wf = true) :
    Calls Try.prog 7 #[.int .i64 room, .int .i64 m] w fun e w' => e = .returned (.bool true) ∧ Below w.heap.size w w' := by
  by_cases h : 1 ≤ room ∧ room ≤ 300 ∧ 0 ≤ m
  · obtain ⟨r, rfl⟩ := Int.eq_ofNat_of_zero_le (show 0 ≤ room by omega)
    obtain ⟨a, rfl⟩ := Int.eq_ofNat_of_zero_le h.2.2
    exact walk_in r a w (by omega) (by omega) (wf_i64 w1).2
  · exact walk_out room m w h
theorem own : ownKnob Try.prog.godebug = none := by kernel_rfl
set_option maxRecDepth 100000 in
theorem lifted (os : Os) (started : os.Started) (H : Type) (enc : TypeId × Value → H) :
    ReturnsInHanded {} Try.checked os 7 .any (Rows.arenaFullSpec.pre6 enc Try.prog Try.f7 Rows.arenaFullRow.domain false) (Rows.arenaFullSpec.post enc Try.prog Try.f7 false true false false) := by
  refine returnsInHanded_of_change (C := Try.checked) own started (by kernel_rfl) Try.func7
    (ChangeSpec.witness6 (enc := enc) (C := Try.checked) false ⟨#[], #[.int .i64 0, .int .i64 0], []⟩ 8 (by kernel_rfl) (by kernel_rfl) (by kernel_rfl) (by kernel_rfl)) ?_
  intro W base args ds gs before hval0 hW hcnd _
  have hval : ∀ (j : Nat) t v, Try.f7.params[j]? = some t → args[j]? = some v → Value.okWide Try.prog W .any base t v := hval0
  have hW' := hW
  obtain ⟨p, q, hA0, hV, rfl, hfz, hnd⟩ := hW
  have hA : DataW.TrodAll enc Try.prog W 0 (fun _ => true) true Try.f7.params.toList args.toList ds p := hA0
  rw [Try.params7] at hA hval
  obtain ⟨v0, vs0, d0, ds0, p0, q0, hargs, rfl, rfl, h0, r0⟩ := trodAll_cons hA
  obtain ⟨v1, vs1, d1, ds1, p1, q1, rfl, rfl, rfl, h1, r1⟩ := trodAll_cons r0
  obtain ⟨rfl, rfl, rfl⟩ := trodAll_nil r1
  obtain rfl : args = #[v0, v1] := by cases args; simp_all
  obtain ⟨rfl, rfl⟩ := trodVars_none hV
  obtain ⟨a0, rfl, rfl, rfl, w0⟩ := open_int Try.underlying3 (hval 0 3 v0 rfl rfl) h0
  obtain ⟨a1, rfl, rfl, rfl, w1⟩ := open_int Try.underlying3 (hval 1 3 v1 rfl rfl) h1
  clear hA0 hval0
  refine (walk a0 a1 W w0 w1).mono fun e W' ⟨he, bel⟩ => ?_
  subst he
  exact ⟨_, rfl, _, _, _, [], _, [], hW', trodAll_mk1 (shut_bool Try.underlying4 _), (trodAll_cons_mk (shut_int Try.underlying3 w0) (trodAll_cons_mk (shut_int Try.underlying3 w1) trodAll_mk0)), rfl, bel.frame _, fun h => by cases h⟩
theorem over : Rows.arenaFullRow.holds Try.pinned (OpenSpec.ofChange Rows.arenaFullSpec) :=
  OpenClaim.holds_of_wide 7 Try.f7 rfl rfl rfl rfl rfl rfl rfl ⟨rfl, rfl, rfl, rfl, rfl⟩ rfl rfl rfl rfl rfl (by kernel_rfl) Try.func7 (by kernel_rfl)
    (of_decide_eq_true (by kernel_rfl)) (by unfold Func.isWrapper; first | (rw [if_pos (by decide +kernel)]; kernel_rfl) | (rw [if_neg (by decide +kernel)]; exact ⟨rfl, rfl⟩))
    (fun os started H enc _ => lifted os started H enc)
/-- The statement. -/
theorem proved : Rows.ArenaFullSaid := over
#print axioms proved
end ArenaFull
end Go.Proofs.Ytpfhogbkbodfjaa
