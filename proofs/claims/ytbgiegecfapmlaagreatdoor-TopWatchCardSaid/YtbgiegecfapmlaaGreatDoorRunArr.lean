/- The runner: arrive; conditions: good jobs, the library's tables as its text lays them. -/
import Derived.Test.YtbgiegecfapmlaaGreatDoorRunFits
import Derived.Test.YtbgiegecfapmlaaGreatDoorRunMem
import Derived.Deep.LoopGhost
import Derived.Deep.DeepCutAuto
namespace Go.Proofs.YtbgiegecfapmlaaGreatDoor
open Go.RowKit
set_option linter.unusedVariables false
set_option linter.unusedSimpArgs false
namespace Rob
open Job (jc jv)
section
variable {base : Nat} {w0 w w' : World} {d : Adr} {js : List J} {s : St} {now : Int} {a : Nat}
theorem Goods.oks (hg : Goods js) : ∀ x ∈ js, x.Ok := fun x hx => Job.good_ok (hg x hx).1
theorem Bnd.small (h : Bnd js a s) (hn : 0 ≤ now ∧ now ≤ 100000) : Small js s now := ⟨hn, fun i hi => by have := h.ran i hi; omega⟩
theorem Bnd.hc (h : Bnd js a s) (hg : Goods js) : ∀ i, i < js.length → opn s i 1 = true → ranAt s i ≤ chAt js i := fun i hi ho => by
  have h1 := h.ch i hi (opn_eq.1 ho).2
  have h2 := oks_at hg.oks hi
  omega
theorem infoI' : (Tryz.prog.info? 3).map (fun i => (i.zero, i.size, i.bytes)) = some (some (.int .i64 0), 1, 8) := by kernel_rfl
theorem infoI : ∃ i, Tryz.prog.info? 3 = some i ∧ i.zero = some (.int .i64 0) ∧ i.size = 1 ∧ i.bytes = 8 := by
  have h := infoI'
  cases hi : Tryz.prog.info? 3 with
  | none => rw [hi] at h; cases h
  | some i =>
    rw [hi] at h
    simp at h
    exact ⟨i, rfl, h.1, h.2.1, h.2.2⟩
theorem iv_one (xs : List Int) : ∀ u ∈ xs.map iv, u.oneCell' = true := by
  intro u hu
  obtain ⟨x, _, rfl⟩ := List.mem_map.1 hu
  rfl
theorem own_take {e : TypeId} {n c k : Nat} {A : Option Addr} {xs : List Value} (h : w.ownsRow base e 1 (.slice A n c) n xs) (hk : k ≤ n) : w.ownsRow base e 1 (.slice A k c) k (xs.take k) := by
  refine ⟨by rw [List.length_take, h.1]; omega, ?_⟩
  rcases h.2 with ⟨hv, h0⟩ | ⟨g, cap, cur, hv, hb, hg, hnc, hcm, hcs, ht⟩
  · injection hv with hA hn hc
    subst hA hc
    exact .inl ⟨by rw [show k = 0 by omega], by omega⟩
  · injection hv with hA _ hc
    subst hA hc
    refine .inr ⟨g, c, cur, rfl, hb, hg, by omega, hcm, hcs, ?_⟩
    rw [← ht, List.take_take]
    congr 1
    omega
theorem own_cap {e : TypeId} {size n c : Nat} {A : Option Addr} {xs : List Value} (h : w.ownsRow base e size (.slice A n c) n xs) : n ≤ c := by
  rcases h.2 with ⟨hv, h0⟩ | ⟨g, cap, cur, hv, hb, hg, hnc, _⟩
  · omega
  · injection hv with _ _ hc
    omega
/-- The first j of those that were given up are taken again. -/
def backTo (s : St) (n0 j : Nat) : St := { s with is := ((s.sh.drop n0).take j).foldl (fun is k => is.set k.toNat 1) s.is }
theorem backTo_next (s : St) (n0 j : Nat) {x : Int} (hx : (s.sh.drop n0)[j]? = some x) : backTo s n0 (j + 1) = { backTo s n0 j with is := (backTo s n0 j).is.set x.toNat 1 } := by
  unfold backTo
  rw [List.take_add_one, hx]
  simp
set_option maxRecDepth 100000 in
set_option maxHeartbeats 8000000 in
theorem arrive_is (T : Tabs w0) (hB : Below w0.heap.size w0 w) (h : At w0.heap.size w d js s now) (hg : Goods js) (hnow : 0 ≤ now ∧ now ≤ 100000) (hbn : Bnd js a s) (ha : a ≤ 4000000) {i : Nat} (hi : i < js.length) :
    Calls Tryz.prog 31 #[.pointer (some ⟨d.p, 0, none⟩), .int .i64 (i : Int)] w fun e w' => e = .returned (.tuple #[]) ∧ ∃ sv, At w0.heap.size w' { d with sv := sv } js (arrive js now s i) now ∧ Below w0.heap.size w0 w' := by
  obtain ⟨i0, hi0, hz0, hz1, hz2⟩ := infoI
  obtain ⟨AS, cS, hsv⟩ := own_shape h.S
  have b1 := h.B.cellAt (i := 1) rfl
  have fI := h.I.frozen
  have c0 := h.I.cellAt (is_get h hi)
  obtain ⟨h1, k1⟩ := h.setIs hi 1
  have B1 := below_keeps hB k1 hB.size (fun b hb => by rw [hb]; exact h.ge _ (by simp [Adr.blocks]))
  have b5 := h1.B.cellAt (i := 5) rfl
  rw [hsv] at b5
  have hi1 : (0 : Int) ≤ (i : Int) := by omega
  have hi2 : (i : Int) < (js.length : Int) := by omega
  have HB1 := Lib.hid B1
  have H1 := Lib.hid h1
  have HT := Lib.hid T
  have HG := Lib.hid hg
  have HN := Lib.hid hnow
  have HBN := Lib.hid (hbn.setI i 1)
  have HA := Lib.hid ha
  have HI := Lib.hid hi
  have hn12 := h.n12
  have hpi := Lib.hid h.apt.pi
  clear h hB B1 h1 k1 T hg hnow hbn ha hsv
  go_enter Tryz.func31, Tryz.ntmps31
  go_wp2_with fail
  go_loopg [] (js.length + 1) (fun f wr => ∃ (s' : St) (sv : Value) (a' : Nat), At w0.heap.size wr { d with sv := sv } js s' now ∧ Below w0.heap.size w0 wr ∧ Bnd js a' s' ∧ a' + f ≤ 4000100 ∧ taken s' js.length < f ∧ arrLoop js now i s.sh.length f s' = arrive js now s i ∧ s.sh.length ≤ s'.sh.length)
  case atStart => exact ⟨setI s i 1, d.sv, a, H1.out, HB1.out, HBN.out, by have := HA.out; omega, by have := taken_le (setI s i 1) js.length; omega, rfl, Nat.le_refl _⟩
  case round =>
    clear b1 fI c0 b5 H1 HB1 HBN HA
    obtain ⟨s', sv, a', h, B, hb, ha, ht, he, hn⟩ := hrel
    obtain ⟨f, rfl⟩ : ∃ f, gk = f + 1 := ⟨gk - 1, by omega⟩
    have hF := fits_run (HT.out.below B) h HG.out (hb.small HN.out) (hb.hc HG.out) (t := now) HN.out
    have b7 : wr.cell? ⟨d.p, 7, none⟩ = some (.int .i64 now) := h.B.cellAt (i := 7) rfl
    have hst : arrLoop js now i s.sh.length (f + 1) s' = if fits js s' now = true then s' else if least js s' js.length < 0 then refuse now i s.sh.length s' else arrLoop js now i s.sh.length f (give s' (least js s' js.length).toNat) := rfl
    rw [he] at hst
    have HST := Lib.hid hst
    have HH := Lib.hid h
    have HBR := Lib.hid B
    have HBB := Lib.hid hb
    have HTK := Lib.hid ht
    have HHN := Lib.hid hn
    have HHA := Lib.hid ha
    clear h B hb ha ht he hn hst
    cases hf : fits js s' now with
    | true =>
      rw [hf] at hF
      have F : Hid (arrive js now s i = s') := Lib.hid (by rw [HST.out, if_pos hf])
      clear hf
      go_wp2_with (go_at_call 66; refine hF.mono ?_; rintro e w2 ⟨rfl, hb2⟩)
      go_end0
      exact ⟨rfl, sv, by rw [F.out]; exact HH.out.down hb2, HBR.out.trans (hb2.mono HBR.out.size)⟩
    | false =>
      rw [hf] at hF
      have HFF := Lib.hid hf
      clear hf
      go_upto_region 3 with (go_at_call 66; refine hF.mono ?_; rintro e w2 ⟨rfl, hb2⟩)
      have h2 := HH.out.down hb2
      have hL := least_is h2
      have hlb := least_bd (js := js) s' js.length
      have HLI := Lib.hid (leastp_is (js := js) s' js.length)
      have B2 := HBR.out.trans (hb2.mono HBR.out.size)
      have HH2 := Lib.hid h2
      have HB2 := Lib.hid B2
      clear hF hb2 h2 B2 HH HBR b7
      obtain ⟨L, hLe⟩ : ∃ L, least js s' js.length = L := ⟨_, rfl⟩
      rw [hLe] at hL hlb
      have HLE := Lib.hid hLe
      clear hLe
      go_upto_region 4 with (go_at_call 67; refine hL.mono ?_; rintro e w3 ⟨rfl, hb3⟩)
      have h3 := HH2.out.down hb3
      have B3 := HB2.out.trans (hb3.mono HB2.out.size)
      clear hL HH2 HB2 hb3
      by_cases hneg : L < 0
      · have F : Hid (arrive js now s i = refuse now i s.sh.length s') := Lib.hid (by rw [HST.out, if_neg (by rw [HFF.out]; simp), HLE.out, if_pos hneg])
        obtain ⟨AS, cS, hsv⟩ := own_shape (v := sv) h3.S
        subst hsv
        have b5 : w3.cell? ⟨d.p, 5, none⟩ = some (.slice AS s'.sh.length cS) := h3.B.cellAt (i := 5) rfl
        have hcap : s'.sh.length ≤ cS := own_cap h3.S
        have hHN := HHN.out
        obtain ⟨m, hm⟩ : ∃ m, s'.sh.length = s.sh.length + m := ⟨s'.sh.length - s.sh.length, by omega⟩
        obtain ⟨A, hA⟩ : ∃ A, (if cS = s.sh.length then AS else AS.map (·.add s.sh.length)) = A := ⟨_, rfl⟩
        have HK : Hid (∀ wr (st : St), At w0.heap.size wr { d with sv := .slice AS s'.sh.length cS } js st now → st.sh = s'.sh → Has wr 3 1 (.slice A m (cS - s.sh.length)) m ((s'.sh.drop s.sh.length).map iv)) := Lib.hid (fun wr st hst he => by
          have h1 := hst.S
          rw [he] at h1
          have h2 := (Has.of_own h1).cut (k := s.sh.length) (by omega)
          rw [Nat.mul_one, hA, ← List.map_drop, show s'.sh.length - s.sh.length = m by omega] at h2
          exact h2)
        have h3' := Lib.hid h3
        have B3' := Lib.hid B3
        have HM := Lib.hid hm
        have q1 : (0 : Int) ≤ (s.sh.length : Int) := by omega
        have q2 : (s.sh.length : Int) ≤ (s'.sh.length : Int) := by omega
        have q3 : (s'.sh.length : Int) ≤ (cS : Int) := by omega
        clear h3 B3 hlb HLI HLE HFF HST hm
        go_upto_region 5 with fail
        go_cut [37, 38, 39] (fun v m' z wx => wx = w3 ∧ z = .int .i64 0 ∧ m' = .int .i64 (m : Int) ∧ v = .slice A m (cS - s.sh.length))
        case first =>
          go_wp2_with fail
          go_meet
          case rel =>
            have e : s'.sh.length - s.sh.length = m := by have := HM.out; omega
            exact ⟨rfl, rfl, by rw [e], by rw [e]⟩
        case rest =>
          obtain ⟨rfl, rfl, rfl, rfl⟩ := hcut
          clear hA b5 hcap hHN q2 q3
          go_wp2_with fail
          go_loopw [39] (fun v wr => ∃ j : Nat, j ≤ m ∧ v = .int .i64 (j : Int) ∧ At w0.heap.size wr { d with sv := .slice AS s'.sh.length cS } js (backTo s' s.sh.length j) now ∧ Below w0.heap.size w0 wr) (fun v _ => m - (intOf v).toNat)
          case atStart => exact ⟨0, by omega, rfl, h3'.out, B3'.out⟩
          case round =>
            clear h3' B3'
            obtain ⟨j, hj, rfl, hr, Br⟩ := hrel
            have hh := HK.out _ _ hr rfl
            have hmm := HM.out
            by_cases hlt : j < m
            · have hj0 : (0 : Int) ≤ (j : Int) := by omega
              have hj1 : (j : Int) < (m : Int) := by omega
              have hj2 : (j : Int) + 1 ≤ 9223372036854775807 := by have := hh.len; omega
              have hjl : j < (s'.sh.drop s.sh.length).length := by rw [List.length_drop]; omega
              obtain ⟨x, hx⟩ : ∃ x, (s'.sh.drop s.sh.length)[j]? = some x := ⟨_, List.getElem?_eq_getElem hjl⟩
              obtain ⟨g, off, hAe, hc⟩ := hh.at_ (by omega)
              have cx := hc j (.int .i64 x) (by rw [List.getElem?_map, hx]; rfl)
              have hxb := HBB.out.shs x (List.mem_of_mem_drop (List.mem_of_getElem? hx))
              obtain ⟨xn, rfl⟩ := Int.eq_ofNat_of_zero_le hxb.1
              have hxn : xn < js.length := by omega
              have b1 : wr.cell? ⟨d.p, 1, none⟩ = some (.slice (some ⟨d.gi, 0, none⟩) js.length d.ci) := hr.B.cellAt (i := 1) rfl
              have fI := hr.I.frozen
              have c0 := hr.I.cellAt (is_get hr hxn)
              obtain ⟨h4, k4⟩ := hr.setIs hxn 1
              have HB4 := Lib.hid (below_keeps Br k4 Br.size (fun b hb => by rw [hb]; exact hr.ge _ (by simp [Adr.blocks])))
              have H4 := Lib.hid h4
              have F4 : Hid (backTo s' s.sh.length (j + 1) = setI (backTo s' s.sh.length j) xn 1) := Lib.hid (by rw [backTo_next s' _ _ hx, Int.toNat_natCast]; rfl)
              have hx0 := hxb.1
              have hx1 := hxb.2
              clear hr Br hh h4 k4 hc hx hxb hmm hjl
              subst hAe
              go_wp2_with fail
              go_roundw
              case rel => exact ⟨j + 1, by omega, by simp, by rw [F4.out]; exact H4.out, HB4.out⟩
              case measure => simp [intOf]; omega
            · have hjm : j = m := by omega
              subst hjm
              have hj1 : ¬ (j : Int) < (j : Int) := by omega
              have b5 : wr.cell? ⟨d.p, 5, none⟩ = some (.slice AS s'.sh.length cS) := hr.B.cellAt (i := 5) rfl
              have fp := hr.B.frozen
              have hcap : s'.sh.length ≤ cS := own_cap hr.S
              have hc1 : (s.sh.length : Int) ≤ (cS : Int) := by omega
              have K : Keeps (Turn d.p (.slice AS s'.sh.length cS)) wr (wr.setCell ⟨d.p, 5, none⟩ (.slice AS s.sh.length cS)) := (Keeps.refl _ wr).setCell _ (.inl (show Turn _ _ d.p from .inl rfl)) _
              have hnp : (Value.slice AS s.sh.length cS).ownBlock ≠ some d.p := fun e => (hr.apt.o d.p (by simp only [List.mem_append]; exact .inl (.inl (.inr (ob_mem.2 (show (Value.slice AS s'.sh.length cS).ownBlock = some d.p by cases AS <;> exact e)))))).1 rfl
              have hot : wr.ownsRow w0.heap.size 3 1 (.slice AS s.sh.length cS) s.sh.length ((s'.sh.map iv).take s.sh.length) := own_take hr.S (show s.sh.length ≤ s'.sh.length by omega)
              have hot2 := own_kept hot ((keep1 d.p wr).setCell ⟨d.p, 5, none⟩ (.inl rfl) (.slice AS s.sh.length cS)) (fun g _ _ hg e => hnp (by rw [hg, e]))
              have hlt2 : (s'.sh.take s.sh.length).length = s.sh.length := by rw [List.length_take]; omega
              have h5 := hr.sheds Br.size K (.inl (by cases AS <;> rfl)) (hr.B.set_ 5 _) (l := s'.sh.take s.sh.length) (by rw [hlt2, List.map_take]; exact hot2)
              have HB5 := Lib.hid (below_keeps Br K Br.size (fun b hb => by
                rcases hb with rfl | hb
                · exact hr.ge _ (by simp [Adr.blocks])
                · exact hr.ge b (by simp only [Adr.blocks, List.mem_cons, List.mem_append]; exact .inr (.inr (.inr (.inr (.inl (.inl (.inr (ob_mem.2 hb))))))))))
              have SI := say_is h5 HI.out 4 0 (by have := HN.out; omega)
              rw [Int.add_zero] at SI
              have F5 : Hid (arrive js now s i = say { backTo s' s.sh.length j with sh := s'.sh.take s.sh.length } i 4 now) := Lib.hid (by
                rw [F.out]
                unfold refuse backTo
                have e : (s'.sh.drop s.sh.length).take j = s'.sh.drop s.sh.length := List.take_of_length_le (by rw [List.length_drop]; omega)
                rw [e])
              have hgf := Lib.hid (h5.ge d.gf (by simp [Adr.blocks]))
              clear hr Br hh K hot hot2 h5 hmm hcap
              go_wp2_with fail
              refine SI.mono ?_
              rintro e w6 ⟨rfl, h6, k6⟩
              have H6 := Lib.hid h6
              have HB6 := Lib.hid (below_keeps HB5.out k6 HB5.out.size (fun b hb => by rw [hb]; exact hgf.out))
              clear h6 k6 SI
              go_wp2_with fail
              first | go_ret | (refine bodyPost_ret (v := .tuple #[]) (results_none rfl _ _ _) rfl ?_) | (simp only [Exit.inBlock, Exit.then]; refine bodyPost_ret (results_none rfl _ _ _) rfl ?_)
              exact ⟨rfl, .slice AS s.sh.length cS, by rw [F5.out]; exact H6.out, HB6.out⟩
      · obtain ⟨k, rfl⟩ := Int.eq_ofNat_of_zero_le (show 0 ≤ L by omega)
        have hk : k < js.length := by omega
        have hkk := HLI.out (by rw [HLE.out]; omega)
        rw [HLE.out, Int.toNat_natCast] at hkk
        have F : Hid (arrLoop js now i s.sh.length f (give s' k) = arrive js now s i) := Lib.hid (by rw [HST.out, if_neg (by rw [HFF.out]; simp), HLE.out, if_neg hneg, Int.toNat_natCast])
        have TK : Hid (taken (give s' k) js.length + 1 = taken s' js.length) := Lib.hid (taken_less (opn_eq.1 hkk.1).1 (fun j => isAt_give s' k j (by rw [HBB.out.len.is]; exact hk)) js.length hk)
        obtain ⟨AS, cS, hsv⟩ := own_shape (v := sv) h3.S
        subst hsv
        have b1 : w3.cell? ⟨d.p, 1, none⟩ = some (.slice (some ⟨d.gi, 0, none⟩) js.length d.ci) := h3.B.cellAt (i := 1) rfl
        have fI := h3.I.frozen
        have c0 := h3.I.cellAt (is_get h3 hk)
        obtain ⟨h4, k4⟩ := h3.setIs hk 2
        have B4 := below_keeps B3 k4 B3.size (fun b hb => by rw [hb]; exact h3.ge _ (by simp [Adr.blocks]))
        have b5 : (w3.setCell ⟨d.gi, k, none⟩ (.int .i64 2)).cell? ⟨d.p, 5, none⟩ = some (.slice AS s'.sh.length cS) := h4.B.cellAt (i := 5) rfl
        have hk1 : (0 : Int) ≤ (k : Int) := by omega
        have hk2 : (k : Int) < (js.length : Int) := by omega
        clear h3 B3 k4 hlb HLI HLE HFF HST hkk
        have H4 := Lib.hid h4
        have HB4 := Lib.hid B4
        clear h4 B4
        go_upto_region 13 with fail
        generalize w3.setCell ⟨d.gi, k, none⟩ (.int .i64 2) = w4 at *
        clear fI c0 b1
        have hlen := HBB.out.sh
        have hha := HHA.out
        have O5 : (w4.alloc (.cells #[.int .i64 (k : Int)] 3)).ownsRow w0.heap.size 3 1 (.slice AS s'.sh.length cS) s'.sh.length (s'.sh.map iv) := own_below H4.out.S ((Below.refl w4.heap.size w4).alloc (Nat.le_refl _) (.cells #[.int .i64 (k : Int)] 3))
        have hsz4 := Nat.le_trans HB4.out.size (show w4.heap.size ≤ (w4.alloc (.cells #[.int .i64 (k : Int)] 3)).heap.size by simp)
        have hnp := Lib.hid (fun e : (Value.slice AS s'.sh.length cS).ownBlock = some d.p => (H4.out.apt.o d.p (by simp only [List.mem_append]; exact .inl (.inl (.inr (ob_mem.2 e))))).1 rfl)
        go_wp2_with (at_builtin; refine wpList_append_has rfl (.tmp 75) (.tmp 77) 23 rfl i0 _ 8 Tryz.underlying23 hi0 hz0 hz1 hz2 rfl (by decide) rfl O5 (some ⟨w4.heap.size, 0, none⟩) 1 1 [.int .i64 (k : Int)] rfl (Has.box w4 3 1 1 [.int .i64 (k : Int)] rfl (by unfold maxLen; omega)) (iv_one [(k : Int)]) (by unfold maxLen; omega) (by omega) hsz4 ?_; intro v6 w6 own6 g6 at6; have BP6 := (H4.out.B.alloc (.cells #[.int .i64 (k : Int)] 3)).grown g6 hnp.out; have f6 := BP6.frozen; have d6 := BP6.cellAt (i := 5) rfl; obtain ⟨A6, c6, hv6⟩ := own_shape own6; subst hv6; have OWN6 := Lib.hid own6; have G6 := Lib.hid g6; have AT6 := Lib.hid at6; have HP6 := Lib.hid BP6; clear own6 g6 at6 BP6 O5)
        go_roundg f
        case measure => omega
        case rel =>
          have K6 : Keeps (Turn d.p (.slice AS s'.sh.length cS)) w4 w6 := keeps_grown ((Keeps.refl _ w4).alloc _) G6.out (fun g hg => .inl (.inr hg))
          have K7 := K6.setCell ⟨d.p, 5, none⟩ (.inl (show Turn _ _ d.p from .inl rfl)) (.slice A6 (s'.sh.length + 1) c6)
          have hp4 : d.p < w4.heap.size := H4.out.lt d.p (by simp [Adr.blocks])
          have hne6 : (Value.slice A6 (s'.sh.length + 1) c6).ownBlock ≠ some d.p := by
            rcases AT6.out with e | e
            · rw [e]; exact hnp.out
            · rw [e]; intro e2
              have := Option.some.inj e2
              simp at this
              omega
          have hS := own_kept OWN6.out ((keep1 d.p w6).setCell ⟨d.p, 5, none⟩ (.inl rfl) (.slice A6 (s'.sh.length + 1) c6)) (fun g _ _ hg e => hne6 (by rw [hg, e]))
          have hS' : (w6.setCell ⟨d.p, 5, none⟩ (.slice A6 (s'.sh.length + 1) c6)).ownsRow w0.heap.size 3 1 (.slice A6 (s'.sh.length + 1) c6) (s'.sh ++ [(k : Int)]).length ((s'.sh ++ [(k : Int)]).map iv) := by
            rw [List.length_append, List.map_append]
            exact hS
          have hN := H4.out.sheds HB4.out.size K7 (Fresh.of AT6.out (by simp)) (HP6.out.set_ 5 _) hS'
          refine ⟨give s' k, .slice A6 (s'.sh.length + 1) c6, a' + 1, hN, below_keeps HB4.out K7 HB4.out.size (fun b hb => ?_), HBB.out.give hk, by omega, by have := HTK.out; have := TK.out; omega, F.out, by have := HHN.out; simp [give]; omega⟩
          rcases hb with rfl | hb
          · exact H4.out.ge _ (by simp [Adr.blocks])
          · exact H4.out.ge b (by simp only [Adr.blocks, List.mem_cons, List.mem_append]; exact .inr (.inr (.inr (.inr (.inl (.inl (.inr (ob_mem.2 hb))))))))
end
end Rob
end Go.Proofs.YtbgiegecfapmlaaGreatDoor
