/- The law ArenaKnown returns true. Conditions: none. -/
import Derived.Test.YtpfhogbkbodfjabAwake4
import Derived.Test.YtpfhogbkbodfjabArIIs
import Derived.Test.YtpfhogbkbodfjabArISet
import Derived.Test.YtpfhogbkbodfjabArILen
import Derived.Test.YtpfhogbkbodfjabArIAll
import Derived.Test.YtpfhogbkbodfjabArgs
namespace Go.Proofs.Ytpfhogbkbodfjab
open Go.RowKit Go.ChangeShapes Go.WideShapes Go.ChangeAt Go.Deep
set_option linter.unusedVariables false
set_option linter.unusedSimpArgs false
namespace ArenaKnown
open Ar ArI
set_option maxRecDepth 100000 in
set_option maxHeartbeats 4000000 in
theorem walk (w : World) : Calls Try.prog 7 #[] w fun e w' => e = .returned (.bool true) ∧ Below w.heap.size w w' := by
  have heq := fun W => handle_eq 1 2 W
  go_enter Try.func7, Try.ntmps7
  go_wp2_with fail
  refine (ArS.awake_ok w).mono ?_
  rintro e wa ⟨rfl, ba⟩
  go_wp2_with fail
  refine (new_no 0 _ (by omega)).mono ?_
  rintro e wb ⟨rfl, rfl⟩
  go_wp2_with fail
  refine (new_no 1001 _ (by omega)).mono ?_
  rintro e wb ⟨rfl, rfl⟩
  go_wp2_with fail
  refine (new_m 2 w wa ba (by omega) (by omega)).mono ?_
  rintro e w0 ⟨p, F0, rfl, M0, _⟩
  clear ba
  go_wp2_with fail
  refine (put_new_m (n := 0) 1 _ M0 rfl (by omega) (by omega)).mono ?_
  rintro e w1 ⟨rfl, ⟨F1, M1⟩, k1⟩
  clear M0 k1
  have M1a := M1.keep ((Keeps.refl (fun _ => False) w1).alloc (.cells #[.int .i64 0, .int .i64 1] 42))
  have Qx : Blk (w1.alloc (.cells #[.int .i64 0, .int .i64 1] 42)) w1.heap.size 42 [.int .i64 0, .int .i64 1] := Blk.new w1 42 _
  clear M1
  have M1 := M1a
  clear M1a
  go_wp2_with fail
  refine (put_new_m (n := 1) 2 _ M1 rfl (by omega) (by omega)).mono ?_
  rintro e w2 ⟨rfl, ⟨F2, M2⟩, k2⟩
  have Qx_2 := Qx.kept k2 (M1.P.ne Qx (by decide) (by decide) (by decide))
  clear Qx
  clear M1 k2
  have M2a := M2.keep ((Keeps.refl (fun _ => False) w2).alloc (.cells #[.int .i64 1, .int .i64 1] 42))
  have Qx_2a := Qx_2.kept ((Keeps.refl (fun _ => False) w2).alloc (.cells #[.int .i64 1, .int .i64 1] 42)) (fun h => h)
  have Qy : Blk (w2.alloc (.cells #[.int .i64 1, .int .i64 1] 42)) w2.heap.size 42 [.int .i64 1, .int .i64 1] := Blk.new w2 42 _
  clear M2 Qx_2
  have M2 := M2a
  clear M2a
  go_wp2_with fail
  refine (put_full_m 3 _ M2 (by simp) (by simp)).mono ?_
  rintro e w3 ⟨rfl, M3, k3⟩
  have Qx_2a_3 := Qx_2a.kept k3 (fun h => h)
  have Qy_3 := Qy.kept k3 (fun h => h)
  clear Qx_2a Qy
  clear M2 k3
  have M3a := M3.keep ((Keeps.refl (fun _ => False) w3).alloc (.cells #[.int .i64 0, .int .i64 0] 42))
  have Qx_2a_3a := Qx_2a_3.kept ((Keeps.refl (fun _ => False) w3).alloc (.cells #[.int .i64 0, .int .i64 0] 42)) (fun h => h)
  have Qy_3a := Qy_3.kept ((Keeps.refl (fun _ => False) w3).alloc (.cells #[.int .i64 0, .int .i64 0] 42)) (fun h => h)
  clear M3 Qx_2a_3 Qy_3
  have M3 := M3a
  clear M3a
  have c0 := Qx_2a_3a.cellAt (i := 0) rfl
  have c1 := Qx_2a_3a.cellAt (i := 1) rfl
  go_wp2_with fail
  refine (free_ok_m 0 ⟨1, 1, true⟩ _ M3 (by omega) (by omega) (by simp) (by simp) rfl rfl).mono ?_
  rintro e w4 ⟨rfl, ⟨F4, M4⟩, k4⟩
  have Qx_2a_3a_4 := Qx_2a_3a.kept k4 (M3.P.ne Qx_2a_3a (by decide) (by decide) (by decide))
  have Qy_3a_4 := Qy_3a.kept k4 (M3.P.ne Qy_3a (by decide) (by decide) (by decide))
  clear Qx_2a_3a Qy_3a
  clear M3 k4
  clear c0 c1
  have c0 := Qy_3a_4.cellAt (i := 0) rfl
  have c1 := Qy_3a_4.cellAt (i := 1) rfl
  go_wp2_with fail
  refine (free_ok_m 1 ⟨2, 1, true⟩ _ M4 (by omega) (by omega) (by simp) (by simp) rfl rfl).mono ?_
  rintro e w5 ⟨rfl, ⟨F5, M5⟩, k5⟩
  have Qx_2a_3a_4_5 := Qx_2a_3a_4.kept k5 (M4.P.ne Qx_2a_3a_4 (by decide) (by decide) (by decide))
  have Qy_3a_4_5 := Qy_3a_4.kept k5 (M4.P.ne Qy_3a_4 (by decide) (by decide) (by decide))
  clear Qx_2a_3a_4 Qy_3a_4
  clear M4 k5
  clear c0 c1
  go_wp2_with fail
  refine (put_free_m (fr := [0]) 4 1 ⟨0, 1, false⟩ _ M5 rfl (by decide) (by simp) (by simp)).mono ?_
  rintro e w6 ⟨rfl, M6, k6⟩
  have Qx_2a_3a_4_5_6 := Qx_2a_3a_4_5.kept k6 (M5.P.ne Qx_2a_3a_4_5 (by decide) (by decide) (by decide))
  have Qy_3a_4_5_6 := Qy_3a_4_5.kept k6 (M5.P.ne Qy_3a_4_5 (by decide) (by decide) (by decide))
  clear Qx_2a_3a_4_5 Qy_3a_4_5
  clear M5 k6
  have M6a := M6.keep ((Keeps.refl (fun _ => False) w6).alloc (.cells #[.int .i64 1, .int .i64 2] 42))
  have Qx_2a_3a_4_5_6a := Qx_2a_3a_4_5_6.kept ((Keeps.refl (fun _ => False) w6).alloc (.cells #[.int .i64 1, .int .i64 2] 42)) (fun h => h)
  have Qy_3a_4_5_6a := Qy_3a_4_5_6.kept ((Keeps.refl (fun _ => False) w6).alloc (.cells #[.int .i64 1, .int .i64 2] 42)) (fun h => h)
  have Qz : Blk (w6.alloc (.cells #[.int .i64 1, .int .i64 2] 42)) w6.heap.size 42 [.int .i64 1, .int .i64 2] := Blk.new w6 42 _
  clear M6 Qx_2a_3a_4_5_6 Qy_3a_4_5_6
  have M6 := M6a
  clear M6a
  have c0 := Qx_2a_3a_4_5_6a.cellAt (i := 0) rfl
  have c1 := Qx_2a_3a_4_5_6a.cellAt (i := 1) rfl
  go_wp2_with fail
  refine (get_no_m 0 1 _ M6 (by omega) (by simp) 7 rfl (by decide)).mono ?_
  rintro e w7 ⟨rfl, M7, k7⟩
  have Qx_2a_3a_4_5_6a_7 := Qx_2a_3a_4_5_6a.kept k7 (fun h => h)
  have Qy_3a_4_5_6a_7 := Qy_3a_4_5_6a.kept k7 (fun h => h)
  have Qz_7 := Qz.kept k7 (fun h => h)
  clear Qx_2a_3a_4_5_6a Qy_3a_4_5_6a Qz
  clear M6 k7
  clear c0 c1
  have c0 := Qy_3a_4_5_6a_7.cellAt (i := 0) rfl
  have c1 := Qy_3a_4_5_6a_7.cellAt (i := 1) rfl
  go_wp2_with fail
  refine (get_no_m 1 1 _ M7 (by omega) (by simp) 7 rfl (by decide)).mono ?_
  rintro e w8 ⟨rfl, M8, k8⟩
  have Qx_2a_3a_4_5_6a_7_8 := Qx_2a_3a_4_5_6a_7.kept k8 (fun h => h)
  have Qy_3a_4_5_6a_7_8 := Qy_3a_4_5_6a_7.kept k8 (fun h => h)
  have Qz_7_8 := Qz_7.kept k8 (fun h => h)
  clear Qx_2a_3a_4_5_6a_7 Qy_3a_4_5_6a_7 Qz_7
  clear M7 k8
  clear c0 c1
  go_wp2_with fail
  refine (get_no_m 2 1 _ M8 (by omega) (by simp) 1 rfl (by decide)).mono ?_
  rintro e w9 ⟨rfl, M9, k9⟩
  have Qx_2a_3a_4_5_6a_7_8_9 := Qx_2a_3a_4_5_6a_7_8.kept k9 (fun h => h)
  have Qy_3a_4_5_6a_7_8_9 := Qy_3a_4_5_6a_7_8.kept k9 (fun h => h)
  have Qz_7_8_9 := Qz_7_8.kept k9 (fun h => h)
  clear Qx_2a_3a_4_5_6a_7_8 Qy_3a_4_5_6a_7_8 Qz_7_8
  clear M8 k9
  have c0 := Qx_2a_3a_4_5_6a_7_8_9.cellAt (i := 0) rfl
  have c1 := Qx_2a_3a_4_5_6a_7_8_9.cellAt (i := 1) rfl
  go_wp2_with fail
  refine (free_no_m 0 1 _ M9 (by omega) (by simp) 7 rfl (by decide)).mono ?_
  rintro e w10 ⟨rfl, M10, k10⟩
  have Qx_2a_3a_4_5_6a_7_8_9_10 := Qx_2a_3a_4_5_6a_7_8_9.kept k10 (fun h => h)
  have Qy_3a_4_5_6a_7_8_9_10 := Qy_3a_4_5_6a_7_8_9.kept k10 (fun h => h)
  have Qz_7_8_9_10 := Qz_7_8_9.kept k10 (fun h => h)
  clear Qx_2a_3a_4_5_6a_7_8_9 Qy_3a_4_5_6a_7_8_9 Qz_7_8_9
  clear M9 k10
  clear c0 c1
  have c0 := Qz_7_8_9_10.cellAt (i := 0) rfl
  have c1 := Qz_7_8_9_10.cellAt (i := 1) rfl
  obtain ⟨A, c, B, d, ha, hF⟩ := M10.P
  subst hF
  go_wp2_with fail
  refine (set_ok p A c B d 2 _ _ 1 ⟨4, 2, true⟩ 9 _ ha (by omega) (by omega) (by simp) rfl rfl).mono ?_
  rintro e w11 ⟨rfl, ha2, k11⟩
  have M11 := M10.onP k11 ⟨_, _, _, _, ha2, rfl⟩ (fun b hb => .inl hb)
  have Qx_2a_3a_4_5_6a_7_8_9_10_11 := Qx_2a_3a_4_5_6a_7_8_9_10.kept k11 (M10.P.ne Qx_2a_3a_4_5_6a_7_8_9_10 (by decide) (by decide) (by decide))
  have Qy_3a_4_5_6a_7_8_9_10_11 := Qy_3a_4_5_6a_7_8_9_10.kept k11 (M10.P.ne Qy_3a_4_5_6a_7_8_9_10 (by decide) (by decide) (by decide))
  have Qz_7_8_9_10_11 := Qz_7_8_9_10.kept k11 (M10.P.ne Qz_7_8_9_10 (by decide) (by decide) (by decide))
  clear Qx_2a_3a_4_5_6a_7_8_9_10 Qy_3a_4_5_6a_7_8_9_10 Qz_7_8_9_10
  clear M10 k11 ha ha2 c0 c1
  have c0 := Qz_7_8_9_10_11.cellAt (i := 0) rfl
  have c1 := Qz_7_8_9_10_11.cellAt (i := 1) rfl
  go_wp2_with fail
  refine (get_ok_m 1 ⟨9, 2, true⟩ _ M11 (by omega) (by omega) (by simp) rfl rfl).mono ?_
  rintro e w12 ⟨rfl, M12, k12⟩
  have Qx_2a_3a_4_5_6a_7_8_9_10_11_12 := Qx_2a_3a_4_5_6a_7_8_9_10_11.kept k12 (fun h => h)
  have Qy_3a_4_5_6a_7_8_9_10_11_12 := Qy_3a_4_5_6a_7_8_9_10_11.kept k12 (fun h => h)
  have Qz_7_8_9_10_11_12 := Qz_7_8_9_10_11.kept k12 (fun h => h)
  clear Qx_2a_3a_4_5_6a_7_8_9_10_11 Qy_3a_4_5_6a_7_8_9_10_11 Qz_7_8_9_10_11
  clear M11 k12
  clear c0 c1
  have c0 := Qz_7_8_9_10_11_12.cellAt (i := 0) rfl
  have c1 := Qz_7_8_9_10_11_12.cellAt (i := 1) rfl
  have MX : Mem w p (Foot p A B) 2 [⟨0, 1, false⟩, ⟨9, 2, true⟩] [0] w12 := M12
  obtain ⟨A', c', B', d', ha, _⟩ := MX.P
  go_wp2_with fail
  refine (len_any p A' c' B' d' 2 _ _ 1 _ ha (by simp) (by simp) rfl).mono ?_
  rintro e w13 ⟨rfl, D⟩
  have M13 := MX.keep (D.keeps _)
  obtain ⟨A2, c2, B2, d2, ha2, _⟩ := M13.P
  go_wp2_with fail
  refine (all_any p A2 c2 B2 d2 2 _ _ _ ha2 (by simp)).mono ?_
  rintro e w14 ⟨A3, c3, rfl, _, _, k14⟩
  have M14 := M13.keep k14
  have hl : (handles [(⟨0, 1, false⟩ : APlace El), ⟨9, 2, true⟩]).length = 1 := rfl
  rw [hl]
  go_wp2_with fail
  go_ret
  exact ⟨rfl, M14.B⟩
theorem own : ownKnob Try.prog.godebug = none := by kernel_rfl
set_option maxRecDepth 100000 in
theorem lifted (os : Os) (started : os.Started) (H : Type) (enc : TypeId × Value → H) :
    ReturnsInHanded {} Try.checked os 7 .any (Rows.arenaKnownSpec.pre6 enc Try.prog Try.f7 Rows.arenaKnownRow.domain false) (Rows.arenaKnownSpec.post enc Try.prog Try.f7 false true false false) := by
  refine returnsInHanded_of_change (C := Try.checked) own started (by kernel_rfl) Try.func7
    (ChangeSpec.witness6 (enc := enc) (C := Try.checked) false ⟨#[], #[], []⟩ 8 (by kernel_rfl) (by kernel_rfl) (by kernel_rfl) (by kernel_rfl)) ?_
  intro W base args ds gs before hval0 hW hcnd _
  have hval : ∀ (j : Nat) t v, Try.f7.params[j]? = some t → args[j]? = some v → Value.okWide Try.prog W .any base t v := hval0
  have hW' := hW
  obtain ⟨p, q, hA0, hV, rfl, hfz, hnd⟩ := hW
  have hA : DataW.TrodAll enc Try.prog W 0 (fun _ => true) true Try.f7.params.toList args.toList ds p := hA0
  rw [Try.params7] at hA hval
  obtain ⟨hargs, rfl, rfl⟩ := trodAll_nil hA
  obtain rfl : args = #[] := by cases args; simp_all
  obtain ⟨rfl, rfl⟩ := trodVars_none hV
  clear hA0 hval0
  refine (walk  W ).mono fun e W' ⟨he, bel⟩ => ?_
  subst he
  exact ⟨_, rfl, _, _, _, [], _, [], hW', trodAll_mk1 (shut_bool Try.underlying4 _), trodAll_mk0, rfl, bel.frame _, fun h => by cases h⟩
theorem over : Rows.arenaKnownRow.holds Try.pinned (OpenSpec.ofChange Rows.arenaKnownSpec) :=
  OpenClaim.holds_of_wide 7 Try.f7 rfl rfl rfl rfl rfl rfl rfl ⟨rfl, rfl, rfl, rfl, rfl⟩ rfl rfl rfl rfl rfl (by kernel_rfl) Try.func7 (by kernel_rfl)
    (of_decide_eq_true (by kernel_rfl)) (by unfold Func.isWrapper; first | (rw [if_pos (by decide +kernel)]; kernel_rfl) | (rw [if_neg (by decide +kernel)]; exact ⟨rfl, rfl⟩))
    (fun os started H enc _ => lifted os started H enc)
/-- The statement. -/
theorem proved : Rows.ArenaKnownSaid := over
#print axioms proved
end ArenaKnown
end Go.Proofs.Ytpfhogbkbodfjab
