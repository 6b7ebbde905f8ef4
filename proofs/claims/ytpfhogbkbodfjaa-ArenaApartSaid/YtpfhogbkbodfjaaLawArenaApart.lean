/- The law ArenaApart returns true at every input and leaves its arguments alone. Conditions: none. -/
import Derived.Test.YtpfhogbkbodfjaaAwake4
import Derived.Test.YtpfhogbkbodfjaaArSSet
import Derived.Test.YtpfhogbkbodfjaaArgs
namespace Go.Proofs.Ytpfhogbkbodfjaa
open Go.RowKit Go.ChangeShapes Go.WideShapes Go.ChangeAt Go.Deep
set_option linter.unusedVariables false
set_option linter.unusedSimpArgs false
namespace ArenaApart
open Ar ArS
abbrev St := {s : ByteArray // s.size ≤ maxLen}
def full (s : St) : APlace ByteArray := ⟨s.1, 1, true⟩
def hc (i : Nat) : List Value := [.int .i64 (i : Int), .int .i64 1]
theorem hc_len (i : Nat) : (hc i).length = 2 := rfl
theorem hc_next (k : Nat) : (List.range k).flatMap hc ++ hc k = (List.range (k + 1)).flatMap hc := by rw [List.range_succ, List.flatMap_append]; simp
theorem infoH : (Try.prog.info? 64).map (fun i => (i.zero, i.size, i.bytes)) = some (some (.agg #[.int .i64 0, .int .i64 0]), 2, 16) := by kernel_rfl
theorem own_cells {w : World} {base n : Nat} {e : TypeId} {size : Nat} {v : Value} {xs : List Value} (h : w.ownsRow base e size v n xs) {g : Nat} (hg : v.ownBlock = some g) : ∃ cur, w.heap[g]? = some (.cells cur e (0, 0)) := by
  rcases h.2 with ⟨rfl, _⟩ | ⟨g', cap, cur, rfl, _, hh, _⟩
  · cases hg
  · cases hg; exact ⟨cur, hh⟩
set_option maxRecDepth 100000 in
set_option maxHeartbeats 4000000 in
theorem walk_in (A0 : Option Addr) (n0 c0 : Nat) (x0 : List St) (m : Nat) (v : ByteArray) (w : World) (r0 : Row (fun x : St => [Value.string x.1]) 1 w A0 n0 x0) (h1 : 1 ≤ n0) (h2 : n0 ≤ 30) (hm : (m : Int) ≤ 9223372036854775807) :
    Calls Try.prog 14 #[.slice A0 n0 c0, .int .i64 (m : Int), .string v] w fun e w' => e = .returned (.bool true) ∧ Below w.heap.size w w' := by
  obtain ⟨i0, hi0, hz0, hz1, hz2⟩ := info_parts infoH
  have hxl : x0.length = n0 := r0.1
  have h1i : (1 : Int) ≤ (n0 : Int) := by omega
  have hm0 : (0 : Int) ≤ (m : Int) := by omega
  have HXL := Lib.hid hxl
  clear hxl
  go_enter Try.func14, Try.ntmps14
  go_wp2_with fail
  refine (awake_ok w).mono ?_
  rintro e wa ⟨rfl, ba⟩
  go_wp2_with fail
  refine (new_m 100 w wa ba (by omega) (by omega)).mono ?_
  rintro e wb ⟨p, F, rfl, M1, _⟩
  clear ba
  go_wp2_with fail
  go_loopw [9, 10] (fun v i wr => ∃ (k : Nat) (F : Nat → Prop), k ≤ n0 ∧ i = .int .i64 k ∧ Mem w p F 100 ((x0.take k).map full) [] wr ∧ wr.ownsRow w.heap.size 64 2 v k ((List.range k).flatMap hc)) (fun _ i _ => n0 - (intOf i).toNat)
  case atStart => exact ⟨0, F, by omega, rfl, M1, World.ownsRow_nil _ _ _ _⟩
  case round =>
    clear M1
    obtain ⟨k, F, hk, rfl, M, HO⟩ := hrel
    by_cases hlt : k < n0
    · obtain ⟨bb, off, y, rfl, hy, hbl, d0⟩ := r0.at1 M.B hlt
      have hlti : (k : Int) < (n0 : Int) := by omega
      have hk0 : (0 : Int) ≤ (k : Int) := by omega
      have hlk : ((x0.take k).map full).length = k := by rw [List.length_map, List.length_take]; have := HXL.out; omega
      have HY := Lib.hid hy
      clear hy
      go_wp2_with fail
      refine (put_new_m (n := k) y.1 _ M hlk (by omega) (by omega)).mono ?_
      rintro e w1 ⟨rfl, ⟨F1, M1⟩, k1⟩
      have O1 := own_kept HO k1 (fun g cur hg _ => M.P.ne hg (by decide) (by decide) (by decide))
      have hnx : (x0.take k).map full ++ [⟨y.1, 1, true⟩] = (x0.take (k + 1)).map full := by rw [take_next HY.out, List.map_append]; rfl
      rw [hnx] at M1
      clear M HO k1 hnx hlk d0
      have M2 := M1.keep ((Keeps.refl (fun _ => False) w1).alloc (.cells #[.int .i64 (k : Int), .int .i64 1] 64))
      have O2 := O1.alloc (.cells #[.int .i64 (k : Int), .int .i64 1] 64)
      have Q := Blk.new w1 64 [.int .i64 (k : Int), .int .i64 1]
      have q0 : (w1.alloc (.cells #[.int .i64 (k : Int), .int .i64 1] 64)).cell? ⟨w1.heap.size, 0, none⟩ = some (.int .i64 (k : Int)) := Q.cellAt (i := 0) rfl
      have q1 : (w1.alloc (.cells #[.int .i64 (k : Int), .int .i64 1] 64)).cell? ⟨w1.heap.size, 1, none⟩ = some (.int .i64 1) := Q.cellAt (i := 1) rfl
      clear M1 O1 Q
      generalize hw2 : w1.alloc (.cells #[.int .i64 (k : Int), .int .i64 1] 64) = w2 at *
      have hz := M2.z
      go_wp2_with (at_builtin; refine wpList_append_has rfl (.tmp 50) (.tmp 52) 62 rfl i0 _ 16 Try.underlying62 hi0 hz0 hz1 hz2 rfl (by omega) rfl (O2.alloc _) (some ⟨w2.heap.size, 0, none⟩) 1 1 [.int .i64 (k : Int), .int .i64 1] rfl (Has.box w2 64 2 1 [.int .i64 (k : Int), .int .i64 1] rfl (by unfold maxLen; omega)) (by intro u hu; simp at hu; rcases hu with rfl | rfl <;> rfl) (by unfold maxLen; omega) (by omega) (by simp; omega) ?_; intro v5 w5 own5 g5 at5)
      have M5 := M2.other (keeps_grown ((Keeps.refl _ w2).alloc (.cells #[.int .i64 (k : Int), .int .i64 1] 64)) g5 (fun g hg => .inl hg)) (fun b hb hg => by
        obtain ⟨cur, hc⟩ := own_cells O2 hg
        exact M2.P.ne hc (by decide) (by decide) (by decide) hb) (fun b hb => (O2.lt b hb).1)
      clear g5 at5 M2 O2 hw2 q0 q1
      go_wp2_with fail
      go_roundw
      case rel => exact ⟨k + 1, F1, by omega, by go_num, M5, by rw [← hc_next]; exact own5⟩
      case measure => simp [intOf]; omega
    · obtain rfl : k = n0 := by omega
      rw [List.take_of_length_le (by have := HXL.out; omega)] at M
      obtain ⟨A, c, hv⟩ := own_shape HO
      subst hv
      have HO2 := HO
      obtain ⟨K, hK⟩ : ∃ K, k = K + 1 := ⟨k - 1, by omega⟩
      rw [hK] at HO2
      obtain ⟨g, rfl⟩ := own_addr HO2
      clear HO2 hK
      generalize hkk : m % k = q
      have hq : q < k := by rw [← hkk]; exact Nat.mod_lt _ (by omega)
      have hmod : (m : Int) % (k : Int) = (q : Int) := by rw [← hkk]; exact (Int.natCast_emod m k).symm
      have HMOD := Lib.hid hmod
      have hqi : (q : Int) < (k : Int) := by omega
      have hq0 : (0 : Int) ≤ (q : Int) := by omega
      have hlx : ((x0.map full).set q ⟨v, 1, true⟩).length ≤ 1000 := by rw [List.length_set, List.length_map]; have := HXL.out; omega
      have hlx0 : (x0.map full).length ≤ 1000 := by rw [List.length_map]; have := HXL.out; omega
      have e0 : wr.cell? ⟨g, q * 2, none⟩ = some (.int .i64 (q : Int)) := by
        rw [HO.cellAt _ (by omega)]
        exact flat_at (j := 0) hc_len (List.getElem?_range hq) rfl
      have e1 : wr.cell? ⟨g, q * 2 + 1, none⟩ = some (.int .i64 1) := by
        rw [HO.cellAt _ (by omega)]
        exact flat_at (j := 1) hc_len (List.getElem?_range hq) rfl
      obtain ⟨yq, hyq⟩ : ∃ y, x0[q]? = some y := ⟨_, List.getElem?_eq_getElem (by have := HXL.out; omega)⟩
      have hxq : (x0.map full)[q]? = some (full yq) := by rw [List.getElem?_map, hyq]; rfl
      have HXQ := Lib.hid hxq
      obtain ⟨Aa, ca, Ba, da, ha, hF⟩ := M.P
      subst hF
      clear hkk hxq hyq
      go_wp2_with fail
      rw [hmod]
      refine (set_ok p Aa ca Ba da 100 _ [] q (full yq) v _ ha (by omega) (by omega) hlx0 HXQ.out rfl).mono ?_
      rintro e w3 ⟨rfl, ha3, k3⟩
      have M3 := M.onP k3 ⟨_, _, _, _, ha3, rfl⟩ (fun b hb => .inl hb)
      have O3 := own_kept HO k3 (fun g cur hg _ => M.P.ne hg (by decide) (by decide) (by decide))
      clear M HO k3 ha ha3 hmod e0 e1
      generalize ArS.Foot p Aa Ba = F3 at M3
      go_wp2_with fail
      go_loopw [14] (fun i wr => ∃ j : Nat, j ≤ k ∧ i = .int .i64 j ∧ Mem w p F3 100 ((x0.map full).set q ⟨v, 1, true⟩) [] wr ∧ wr.ownsRow w.heap.size 64 2 (.slice (some ⟨g, 0, none⟩) k c) k ((List.range k).flatMap hc)) (fun i _ => k - (intOf i).toNat)
      case atStart => exact ⟨0, by omega, rfl, M3, O3⟩
      case round =>
        clear M3 O3
        obtain ⟨j, hj, rfl, M, O⟩ := hrel
        by_cases hlt2 : j < k
        · obtain ⟨bb, off, y, rfl, hy, hbl, _⟩ := r0.at1 M.B hlt2
          have HD : Hid (∀ W, Below w.heap.size w W → W.cell? ⟨bb, off + j, none⟩ = some (.string y.1)) := Lib.hid (fun W hW => by
            obtain ⟨bb', off', y', he, hy', _, hc⟩ := r0.at1 hW hlt2
            cases he
            rw [hy] at hy'
            cases hy'
            exact hc)
          have HY := Lib.hid hy
          clear hy
          have hlti : (j : Int) < (k : Int) := by omega
          have hj0 : (0 : Int) ≤ (j : Int) := by omega
          have e0 : wr.cell? ⟨g, j * 2, none⟩ = some (.int .i64 (j : Int)) := by
            rw [O.cellAt _ (by omega)]
            exact flat_at (j := 0) hc_len (List.getElem?_range hlt2) rfl
          have e1 : wr.cell? ⟨g, j * 2 + 1, none⟩ = some (.int .i64 1) := by
            rw [O.cellAt _ (by omega)]
            exact flat_at (j := 1) hc_len (List.getElem?_range hlt2) rfl
          by_cases hjq : j = q
          · subst hjq
            have hx : Hid (((x0.map full).set j ⟨v, 1, true⟩)[j]? = some ⟨v, 1, true⟩) := Lib.hid (List.getElem?_set_self (by rw [List.length_map]; have := HXL.out; omega))
            go_wp2_with fail
            refine (get_ok_m j ⟨v, 1, true⟩ _ M (by omega) (by omega) hlx hx.out rfl).mono ?_
            rintro e w5 ⟨rfl, M5, k5⟩
            have O5 := own_kept O k5 (fun _ _ _ _ h => h)
            clear e0 e1 M O k5
            go_wp2_with fail
            go_roundw
            case rel => exact ⟨j + 1, by omega, by go_num, M5, O5⟩
            case measure => simp [intOf]; omega
          · have hx : Hid (((x0.map full).set q ⟨v, 1, true⟩)[j]? = some ⟨y.1, 1, true⟩) := Lib.hid (by rw [List.getElem?_set_ne (fun e => hjq e.symm), List.getElem?_map, HY.out]; rfl)
            have hjb : ((j : Int) == (q : Int)) = false := by simp; omega
            have hjb2 : ((j : Int) != (q : Int)) = true := by simp; omega
            clear hjq
            go_wp2_with fail
            refine (get_ok_m j ⟨y.1, 1, true⟩ _ M (by omega) (by omega) hlx hx.out rfl).mono ?_
            rintro e w5 ⟨rfl, M5, k5⟩
            have O5 := own_kept O k5 (fun _ _ _ _ h => h)
            have d5 := HD.out _ M5.B
            clear e0 e1 M O k5
            go_wp2_with fail
            go_roundw
            case rel => exact ⟨j + 1, by omega, by go_num, M5, O5⟩
            case measure => simp [intOf]; omega
        · go_wp2_with fail
          go_ret
          exact ⟨rfl, M.B⟩
set_option maxHeartbeats 1000000 in
theorem walk_out (A0 : Option Addr) (n0 c0 : Nat) (m : Int) (v : ByteArray) (w : World) (hm : n0 ≤ 9223372036854775807) (h : ¬ (1 ≤ n0 ∧ n0 ≤ 30 ∧ 0 ≤ m)) :
    Calls Try.prog 14 #[.slice A0 n0 c0, .int .i64 m, .string v] w fun e w' => e = .returned (.bool true) ∧ Below w.heap.size w w' := by
  go_enter Try.func14, Try.ntmps14
  go_wp2_with fail
  refine (awake_ok w).mono ?_
  rintro e wa ⟨rfl, ba⟩
  by_cases h1 : n0 < 1
  · have h1i : (n0 : Int) < 1 := by omega
    clear h
    go_wp2_with fail
    go_ret
    exact ⟨rfl, ba⟩
  · by_cases h2 : 30 < n0
    · clear h
      go_wp2_with fail
      go_ret
      exact ⟨rfl, ba⟩
    · have h3 : m < 0 := by omega
      clear h
      go_wp2_with fail
      go_ret
      exact ⟨rfl, ba⟩
theorem walk (A0 : Option Addr) (n0 c0 : Nat) (x0 : List St) (m : Int) (v : ByteArray) (w : World) (r0 : Row (fun x : St => [Value.string x.1]) 1 w A0 n0 x0) (w1 : (Lit.int .i64 m).wf = true) (w2 : v.size ≤ maxLen) :
    Calls Try.prog 14 #[.slice A0 n0 c0, .int .i64 m, .string v] w fun e w' => e = .returned (.bool true) ∧ Below w.heap.size w w' := by
  by_cases h : 1 ≤ n0 ∧ n0 ≤ 30 ∧ 0 ≤ m
  · obtain ⟨a, rfl⟩ := Int.eq_ofNat_of_zero_le h.2.2
    exact walk_in A0 n0 c0 x0 a v w r0 h.1 h.2.1 (wf_i64 w1).2
  · have m1 := r0.2.1
    unfold maxLen at m1
    exact walk_out A0 n0 c0 m v w m1 h
theorem own : ownKnob Try.prog.godebug = none := by kernel_rfl
theorem laidOut : laidOutB Try.prog = true := by kernel_rfl
set_option maxRecDepth 100000 in
theorem lifted (os : Os) (started : os.Started) (H : Type) (enc : TypeId × Value → H) :
    ReturnsInHanded {} Try.checked os 14 .any (Rows.arenaApartSpec.pre6 enc Try.prog Try.f14 Rows.arenaApartRow.domain false) (Rows.arenaApartSpec.post enc Try.prog Try.f14 false true false false) := by
  refine returnsInHanded_of_change (C := Try.checked) own started (by kernel_rfl) Try.func14
    (ChangeSpec.witness6 (enc := enc) (C := Try.checked) false ⟨#[], #[.slice none 0 0, .int .i64 0, .string ⟨#[]⟩], []⟩ 8 (by kernel_rfl) (by kernel_rfl) (by kernel_rfl) (by kernel_rfl)) ?_
  intro W base args ds gs before hval0 hW hcnd _
  have hval : ∀ (j : Nat) t v, Try.f14.params[j]? = some t → args[j]? = some v → Value.okWide Try.prog W .any base t v := hval0
  have hW' := hW
  obtain ⟨p, q, hA0, hV, rfl, hfz, hnd⟩ := hW
  have hA : DataW.TrodAll enc Try.prog W 0 (fun _ => true) true Try.f14.params.toList args.toList ds p := hA0
  rw [Try.params14] at hA hval
  obtain ⟨v0, vs0, d0, ds0, p0, q0, hargs, rfl, rfl, h0, r0⟩ := trodAll_cons hA
  obtain ⟨v1, vs1, d1, ds1, p1, q1, rfl, rfl, rfl, h1, r1⟩ := trodAll_cons r0
  obtain ⟨v2, vs2, d2, ds2, p2, q2, rfl, rfl, rfl, h2, r2⟩ := trodAll_cons r1
  obtain ⟨rfl, rfl, rfl⟩ := trodAll_nil r2
  obtain rfl : args = #[v0, v1, v2] := by cases args; simp_all
  obtain ⟨rfl, rfl⟩ := trodVars_none hV
  obtain ⟨A0, n0, c0, rfl⟩ := okWide_slice Try.underlying93 (hval 0 93 v0 rfl rfl)
  have k0 := h0
  have lt0 : ∀ x ∈ p0, x.block < W.heap.size := by obtain ⟨m, hm⟩ := k0; exact DataW.trod_lt m _ _ _ hm
  obtain ⟨x0, w0⟩ : ∃ xs, Row (fun x : {s : ByteArray // s.size ≤ maxLen} => [Value.string x.1]) 1 W A0 n0 xs := by
    obtain ⟨fuel, hf⟩ := h0
    exact open_row _ 1 (by omega) Try.underlying93 (by kernel_rfl) (el_string Try.underlying9) (by simpa [Value.cells] using hf)
  obtain ⟨a1, rfl, rfl, rfl, w1⟩ := open_int Try.underlying3 (hval 1 3 v1 rfl rfl) h1
  obtain ⟨a2, rfl, rfl, rfl, w2⟩ := Go.ChangeMaps.open_string Try.underlying9 (hval 2 9 v2 rfl rfl) h2
  clear hA0 hval0
  refine (walk A0 n0 c0 x0 a1 a2 W w0 w1 w2).mono fun e W' ⟨he, bel⟩ => ?_
  subst he
  exact ⟨_, rfl, _, _, _, [], _, [], hW', trodAll_mk1 (shut_bool Try.underlying4 _), (trodAll_cons_mk (Below.trod laidOut (by kernel_rfl) (of_decide_eq_true (by kernel_rfl)) k0 bel lt0) (trodAll_cons_mk (shut_int Try.underlying3 w1) (trodAll_cons_mk (Go.ChangeMaps.shut_string Try.underlying9 w2) trodAll_mk0))), rfl, bel.frame _, fun h => by cases h⟩
theorem over : Rows.arenaApartRow.holds Try.pinned (OpenSpec.ofChange Rows.arenaApartSpec) :=
  OpenClaim.holds_of_wide 14 Try.f14 rfl rfl rfl rfl rfl rfl rfl ⟨rfl, rfl, rfl, rfl, rfl⟩ rfl rfl rfl rfl rfl (by kernel_rfl) Try.func14 (by kernel_rfl)
    (of_decide_eq_true (by kernel_rfl)) (by unfold Func.isWrapper; first | (rw [if_pos (by decide +kernel)]; kernel_rfl) | (rw [if_neg (by decide +kernel)]; exact ⟨rfl, rfl⟩))
    (fun os started H enc _ => lifted os started H enc)
/-- The statement. -/
theorem proved : Rows.ArenaApartSaid := over
#print axioms proved
end ArenaApart
end Go.Proofs.Ytpfhogbkbodfjaa
