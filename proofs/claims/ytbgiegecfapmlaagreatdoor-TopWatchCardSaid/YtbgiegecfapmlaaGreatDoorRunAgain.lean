/- The runner: again; conditions: good jobs, the library's tables as its text lays them. -/
import Derived.Test.YtbgiegecfapmlaaGreatDoorRunArr
import Derived.Test.YtbgiegecfapmlaaGreatDoorRunMem2
import Derived.Test.YtbgiegecfapmlaaGreatDoorRunSort
import Derived.Test.YtbgiegecfapmlaaGreatDoorHeldU
namespace Go.Proofs.YtbgiegecfapmlaaGreatDoor
open Go.RowKit
set_option linter.unusedVariables false
set_option linter.unusedSimpArgs false
namespace Rob
open Job (jc jv)
section
variable {base : Nat} {w0 w w' : World} {d : Adr} {js : List J} {s : St} {now : Int} {a : Nat}
theorem nv_len (l : List Nat) : (nv l).length = l.length := by unfold nv; simp
theorem nv_app (l l' : List Nat) : nv (l ++ l') = nv l ++ nv l' := by unfold nv; simp
theorem nv_one (l : List Nat) : ∀ u ∈ nv l, u.oneCell' = true := by
  intro u hu
  obtain ⟨x, _, rfl⟩ := List.mem_map.1 hu
  rfl
/-- The second loop's state. -/
structure Ag (w0 : World) (d : Adr) (js : List J) (s : St) (now : Int) (a X : Nat) (v : Value) (m : Nat) (L : List Nat) (j : Nat) (s' : St) (av : Value) (wr : World) : Prop where
  h : At w0.heap.size wr { d with av := av } js s' now
  B : Below w0.heap.size w0 wr
  b : ∃ a', Bnd js a' s' ∧ a' + (m - j) ≤ a + m
  e : againGo js now (L.drop j) s' = again js now s
  x : wr.cell? ⟨X, 0, none⟩ = some (.pointer (some ⟨d.p, 0, none⟩))
  l : Has wr 3 1 v m (nv L)
  o : ∀ b, b = X ∨ v.ownBlock = some b → b ∉ ({ d with av := av } : Adr).blocks ∧ b < wr.heap.size
theorem Has.down {e : TypeId} {size n : Nat} {v : Value} {cs : List Value} (h : Has w e size v n cs) (hb : Below w.heap.size w w') : Has w' e size v n cs := by
  refine ⟨h.1, ?_⟩
  rcases h.2 with h0 | ⟨g, off, cap, cur, rfl, hnc, hcm, hg, hc⟩
  · exact .inl h0
  · have hlt : g < w.heap.size := (Array.getElem?_eq_some_iff.1 hg).1
    exact .inr ⟨g, off, cap, cur, rfl, hnc, hcm, (hb.block g hlt).trans hg, hc⟩
section
variable {X m j : Nat} {v av : Value} {L : List Nat} {s' : St} {wr w2 : World}
theorem Ag.x_kept (G : Ag w0 d js s now a X v m L j s' av wr) {S : Nat → Prop} (k : Keeps S wr w2) (hS : ∀ b, S b → b ∈ ({ d with av := av } : Adr).blocks ∨ wr.heap.size ≤ b) : w2.cell? ⟨X, 0, none⟩ = some (.pointer (some ⟨d.p, 0, none⟩)) := by
  have hX := G.o X (.inl rfl)
  rw [World.cell?_of_block (a := ⟨X, 0, none⟩) (k.block X hX.2 (fun e => (hS X e).elim hX.1 (fun h => by omega)))]
  exact G.x
theorem Ag.l_kept (G : Ag w0 d js s now a X v m L j s' av wr) {S : Nat → Prop} (k : Keeps S wr w2) (hS : ∀ b, S b → b ∈ ({ d with av := av } : Adr).blocks ∨ wr.heap.size ≤ b) : Has w2 3 1 v m (nv L) := by
  refine G.l.kept k (fun g cur hg hv e => ?_)
  have hX := G.o g (.inr hv)
  exact (hS g e).elim hX.1 (fun h => by omega)
end
set_option maxRecDepth 100000 in
set_option maxHeartbeats 8000000 in
theorem again_is (T : Tabs w0) (hB : Below w0.heap.size w0 w) (h : At w0.heap.size w d js s now) (hg : Goods js) (hnow : 0 ≤ now ∧ now ≤ 90000) (hbn : Bnd js a s) (ha : a ≤ 4000000) :
    Calls Tryz.prog 71 #[.pointer (some ⟨d.p, 0, none⟩)] w fun e w' => e = .returned (.tuple #[]) ∧ ∃ av, At w0.heap.size w' { d with av := av } js (again js now s) now ∧ Below w0.heap.size w0 w' := by
  obtain ⟨i0, hI0, hz0, hz1, hz2⟩ := infoI
  have X1 := Blk.new w 79 [.pointer (some ⟨d.p, 0, none⟩)]
  have BW := (Below.refl w.heap.size w).alloc (Nat.le_refl _) (.cells #[.pointer (some ⟨d.p, 0, none⟩)] 79)
  have h1 := h.down BW
  have B1 := hB.trans (BW.mono hB.size)
  have cX := X1.cellAt (i := 0) rfl
  have hXn : w.heap.size ∉ d.blocks := fun hm => by have := h.lt _ hm; omega
  have hXl := X1.lt
  have hwl : ∀ b ∈ d.blocks, b < w.heap.size := h.lt
  have hn12 := h.n12
  obtain ⟨X, hX⟩ : ∃ X, w.heap.size = X := ⟨_, rfl⟩
  have HT := Lib.hid T
  have HG := Lib.hid hg
  have HN := Lib.hid hnow
  have HBN := Lib.hid hbn
  have HA := Lib.hid ha
  have HB1 := Lib.hid B1
  have H1 := Lib.hid h1
  have H1X := Lib.hid cX
  have HXN := Lib.hid hXn
  have HXL := Lib.hid hXl
  have HWL := Lib.hid hwl
  have b0 := h1.B.cellAt (i := 0) rfl
  clear T hg hnow hbn ha hB B1 h1 h X1 BW hXn hXl hwl
  go_enter Tryz.func71, Tryz.ntmps71
  go_upto_region 2 with fail
  simp only [List.toArray] at cX b0
  generalize w.alloc (.cells #[.pointer (some ⟨d.p, 0, none⟩)] 79) = w1 at *
  rw [hX] at *
  go_wp2_with fail
  go_loopw [2, 11] (fun v i wr => ∃ k : Nat, k ≤ js.length ∧ i = .int .i64 (k : Int) ∧ Below w1.heap.size w1 wr ∧ wr.ownsRow w1.heap.size 3 1 v (shedTo s k).length (nv (shedTo s k))) (fun _ i _ => js.length - (intOf i).toNat)
  case atStart => exact ⟨0, by omega, rfl, Below.refl _ _, ⟨rfl, .inl ⟨rfl, rfl⟩⟩⟩
  case round =>
    obtain ⟨k, hk, rfl, B, O⟩ := hrel
    have hr := H1.out.down B
    have cXr : wr.cell? ⟨X, 0, none⟩ = some (.pointer (some ⟨d.p, 0, none⟩)) := (B.cell HXL.out).trans cX
    have b0r := hr.B.cellAt (i := 0) rfl
    have hsk : shedTo s (k + 1) = shedTo s k ++ if opn s k 2 = true then [k] else [] := rfl
    have hln := shedTo_len s k
    clear cX b0
    by_cases hlt : k < js.length
    · have hlti : (k : Int) < (js.length : Int) := by omega
      have hk0 : (0 : Int) ≤ (k : Int) := by omega
      have hk1 : (k : Int) + 1 ≤ 9223372036854775807 := by omega
      have OI := open_is hr hlt 2
      have HB := Lib.hid B
      have HO := Lib.hid O
      have HSK := Lib.hid hsk
      have HLN := Lib.hid hln
      cases ho : opn s k 2 with
      | false =>
        rw [ho] at OI
        have F : Hid (shedTo s (k + 1) = shedTo s k) := Lib.hid (by rw [HSK.out, if_neg (by rw [ho]; simp)]; simp)
        clear ho hr B O hsk hln
        go_wp2_with (go_at_call 33; refine OI.mono ?_; rintro e w2 ⟨rfl, rfl⟩)
        go_roundw
        case rel => exact ⟨k + 1, by omega, by simp, HB.out, by rw [F.out]; exact HO.out⟩
        case measure => simp [intOf]; omega
      | true =>
        rw [ho] at OI
        have F : Hid (shedTo s (k + 1) = shedTo s k ++ [k]) := Lib.hid (by rw [HSK.out, if_pos ho])
        have hgo := own_block_lt O
        obtain ⟨AS, cS, hsv⟩ := own_shape O
        subst hsv
        have HGO := Lib.hid hgo
        clear ho hr B O hsk hgo
        go_upto_region 6 with (go_at_call 33; refine OI.mono ?_; rintro e w2 ⟨rfl, rfl⟩)
        have O5 := own_below HO.out ((Below.refl w2.heap.size w2).alloc (Nat.le_refl _) (.cells #[.int .i64 (k : Int)] 3))
        have hsz5 := Nat.le_trans HB.out.size (show w2.heap.size ≤ (w2.alloc (.cells #[.int .i64 (k : Int)] 3)).heap.size by simp)
        go_wp2_with (at_builtin; refine wpList_append_has rfl (.tmp 17) (.tmp 19) 23 rfl i0 _ 8 Tryz.underlying23 hI0 hz0 hz1 hz2 rfl (by decide) rfl O5 (some ⟨w2.heap.size, 0, none⟩) 1 1 [.int .i64 (k : Int)] rfl (Has.box w2 3 1 1 [.int .i64 (k : Int)] rfl (by unfold maxLen; omega)) (iv_one [(k : Int)]) (by unfold maxLen; omega) (by omega) hsz5 ?_; intro v6 w6 own6 g6 at6; obtain ⟨A6, c6, hv6⟩ := own_shape own6; subst hv6; have OWN6 := Lib.hid own6; have B6 := Lib.hid (below_keeps HB.out (keeps_grown ((Keeps.refl (fun b => (Value.slice AS (shedTo s k).length cS).ownBlock = some b) w2).alloc (.cells #[.int .i64 (k : Int)] 3)) g6 (fun g hg => .inl hg)) HB.out.size (fun b hb => (HGO.out b (ob_mem.2 hb)).1)); clear own6 g6 at6 O5)
        go_roundw
        case rel => exact ⟨k + 1, by omega, by simp, B6.out, by rw [F.out, List.length_append, nv_app]; exact OWN6.out⟩
        case measure => simp [intOf]; omega
    · have hlti : ¬ (k : Int) < (js.length : Int) := by omega
      have hkn : k = js.length := by omega
      subst hkn
      have hgo := own_block_lt O
      obtain ⟨AS, cS, hsv⟩ := own_shape O
      subst hsv
      have hp1 : ∀ b ∈ d.blocks, b < w1.heap.size := fun b hb => Nat.lt_trans (HWL.out b hb) HXL.out
      have hge : ∀ b, (Value.slice AS (shedTo s js.length).length cS).ownBlock = some b → w1.heap.size ≤ b ∧ b < wr.heap.size := fun b hb => hgo b (ob_mem.2 hb)
      have hXL := HXL.out
      have C := sortV_is (js := js) X d.p wr O (fun x hx => ((shedTo_mem _ _ _).1 hx).1) (by omega) cXr b0r hr.JR (fun e => by have := (hge _ e).1; omega) (fun e => by have := (hge _ e).1; have := hp1 d.p (by simp [Adr.blocks]); omega) (fun a ha e => by have := (hge _ e).1; have := hp1 a.block (by simp [Adr.blocks, ha]); omega)
      have HGE := Lib.hid hge
      have HP1 := Lib.hid hp1
      have HB := Lib.hid B
      have hpm := (sortV_perm (js := js) (shedTo s js.length) (fun x hx => ((shedTo_mem _ _ _).1 hx).1))
      have HPL := Lib.hid hpm.length_eq
      have HPM := Lib.hid (fun x (hx : x ∈ sortV js (shedTo s js.length)) => ((shedTo_mem s _ _).1 (hpm.mem_iff.1 hx)).1)
      have HAG : Hid (againGo js now (sortV js (shedTo s js.length)) s = again js now s) := Lib.hid rfl
      clear hgo hp1 hge O B hr hpm hsk
      generalize (shedTo s js.length).length = m at *
      go_upto_region 9 with (go_at_call 47; refine C.mono ?_; rintro e w2 ⟨rfl, hHas, k2⟩)
      generalize sortV js (shedTo s js.length) = L at *
      have B2 := below_keeps HB.out k2 HB.out.size (fun b hb => (HGE.out b hb).1)
      have AG0 : Ag w0 d js s now a X (.slice AS m cS) m L 0 s d.av w2 := ⟨H1.out.down B2, HB1.out.trans (B2.mono HB1.out.size), ⟨a, HBN.out, by omega⟩, HAG.out, (B2.cell HXL.out).trans H1X.out, hHas, fun b hb => by
        rcases hb with rfl | hb
        · exact ⟨HXN.out, Nat.lt_of_lt_of_le HXL.out B2.size⟩
        · exact ⟨fun hm => by have := HP1.out b hm; have := (HGE.out b hb).1; omega, Nat.lt_of_lt_of_le (HGE.out b hb).2 k2.size⟩⟩
      have HAG0 := Lib.hid AG0
      have HM12 := Lib.hid (show m ≤ 12 by omega)
      clear AG0 B2 k2 hHas HB C HGE HP1 HB1 HBN cXr b0r H1 HAG H1X HWL hlti hln hXL
      go_wp2_with fail
      go_loopw [27] (fun i wr => ∃ (j : Nat) (s' : St) (av : Value), j ≤ m ∧ i = .int .i64 (j : Int) ∧ Ag w0 d js s now a X (.slice AS m cS) m L j s' av wr) (fun i _ => m - (intOf i).toNat)
      case atStart => exact ⟨0, s, d.av, by omega, rfl, HAG0.out⟩
      case round =>
        clear HAG0
        obtain ⟨j, s', av, hj, rfl, G⟩ := hrel
        have hpl := HPL.out
        by_cases hlt : j < m
        · have hj0 : (0 : Int) ≤ (j : Int) := by omega
          have hj1 : (j : Int) < (m : Int) := by omega
          have hj2 : (j : Int) + 1 ≤ 9223372036854775807 := by have := G.l.len; omega
          have hjl : j < L.length := by omega
          obtain ⟨i, hi⟩ : ∃ i, L[j]? = some i := ⟨_, List.getElem?_eq_getElem hjl⟩
          have hib := HPM.out i (List.mem_of_getElem? hi)
          obtain ⟨g, off, hAe, hc⟩ := G.l.at_ (by omega)
          have cx := hc j (.int .i64 (i : Int)) (by unfold nv; rw [List.getElem?_map, hi]; rfl)
          have b1 : wr.cell? ⟨d.p, 1, none⟩ = some (.slice (some ⟨d.gi, 0, none⟩) js.length d.ci) := G.h.B.cellAt (i := 1) rfl
          have cXw := G.x
          have fI := G.h.I.frozen
          have c0 := G.h.I.cellAt (is_get G.h hib)
          obtain ⟨h3, k3⟩ := G.h.setIs hib 1
          have gi3 : ∀ b, b = d.gi → b ∈ ({ d with av := av } : Adr).blocks ∨ wr.heap.size ≤ b := fun b e => .inl (by rw [e]; simp [Adr.blocks])
          have cX3 := G.x_kept k3 gi3
          have l3 := G.l_kept k3 gi3
          have B3 := below_keeps G.B k3 G.B.size (fun b hb => by rw [hb]; exact G.h.ge _ (by simp [Adr.blocks]))
          have hie : L.drop j = i :: L.drop (j + 1) := by rw [List.drop_eq_getElem_cons hjl, ← (List.getElem?_eq_some_iff.1 hi).2]
          have he := G.e
          rw [hie] at he
          simp only [againGo] at he
          have hi0 : (0 : Int) ≤ (i : Int) := by omega
          have hi1 : (i : Int) < (js.length : Int) := by omega
          have HHE := Lib.hid he
          have H3 := Lib.hid h3
          have HB3 := Lib.hid B3
          have HL3 := Lib.hid l3
          have HGB := Lib.hid G.b
          have HGO := Lib.hid G.o
          have HSZ := Lib.hid k3.size
          have HIB := Lib.hid hib
          clear he h3 k3 B3 l3 gi3 hie G hi hjl hpl hc hib
          subst hAe
          go_upto_region 13 with fail
          generalize wr.setCell ⟨d.gi, i, none⟩ (.int .i64 1) = w3 at *
          clear b1 fI c0 cx cXw
          have hbd := below_drew w3
          have b7 : w3.cell? ⟨d.p, 7, none⟩ = some (.int .i64 now) := H3.out.B.cellAt (i := 7) rfl
          obtain ⟨a', hbn', ha'⟩ := HGB.out
          have HF := fits_run (HT.out.below (HB3.out.trans (hbd.mono HB3.out.size))) (H3.out.down hbd) HG.out ((hbn'.setI i 1).small (by have := HN.out; omega)) ((hbn'.setI i 1).hc HG.out) (t := now + 1) (by have := HN.out; omega)
          have hw : IntKind.i64.wrap (now + 1) = now + 1 := by have := HN.out; rw [IntKind.wrap_i64]; omega
          have hw2 : wrap64 (now + 1) = now + 1 := by have := HN.out; unfold wrap64; omega
          have HBN := Lib.hid hbn'
          have HA' := Lib.hid ha'
          have HBD := Lib.hid hbd
          clear hbn' ha' hbd HGB
          cases hf : fits js (setI s' i 1) (now + 1) with
          | false =>
            rw [hf] at HF
            have F : Hid (againGo js now (L.drop (j + 1)) (setI (setI s' i 1) i 2) = again js now s) := Lib.hid (by rw [← HHE.out, hf]; rfl)
            clear hf
            go_region_held3 (fun W => W.cell? ⟨X, 0, none⟩ = some (.pointer (some ⟨d.p, 0, none⟩)) ∧ W.cell? ⟨d.p, 7, none⟩ = some (.int .i64 now)) (first | exact ⟨cX3, b7⟩ | exact ⟨y, y7⟩) (first | (go_at_call 66; refine HF.mono ?_; rintro e w4 ⟨rfl, hb⟩; have y := (hb.cell (World.block_lt_of_cell? _ _ cX3)).trans cX3; have y7 := (hb.cell (World.block_lt_of_cell? _ _ b7)).trans b7))
            have h4 := (H3.out.down HBD.out).down hb
            have l4 := Has.down (Has.down HL3.out HBD.out) hb
            have hb4 := HBD.out.trans (hb.mono HBD.out.size)
            have B4 := HB3.out.trans (hb4.mono HB3.out.size)
            have b1 : w4.cell? ⟨d.p, 1, none⟩ = some (.slice (some ⟨d.gi, 0, none⟩) js.length d.ci) := h4.B.cellAt (i := 1) rfl
            have fI := h4.I.frozen
            have c0 := h4.I.cellAt (is_get h4 HIB.out)
            obtain ⟨h5, k5⟩ := h4.setIs HIB.out 2
            have hXo := HGO.out X (.inl rfl)
            have hgm : d.gi ∈ ({ d with av := av } : Adr).blocks := by simp [Adr.blocks]
            have hXg : X ≠ d.gi := fun e => hXo.1 (by rw [e]; exact hgm)
            have cX5 : (w4.setCell ⟨d.gi, i, none⟩ (.int .i64 2)).cell? ⟨X, 0, none⟩ = some (.pointer (some ⟨d.p, 0, none⟩)) := by
              rw [World.cell?_of_block (a := ⟨X, 0, none⟩) (k5.block X (World.block_lt_of_cell? _ _ y) hXg)]; exact y
            have hszw := Nat.le_trans HSZ.out (Nat.le_trans hb4.size k5.size)
            have G5 : Hid (Ag w0 d js s now a X _ m L (j + 1) (setI (setI s' i 1) i 2) av (w4.setCell ⟨d.gi, i, none⟩ (.int .i64 2))) := Lib.hid ⟨h5, below_keeps B4 k5 B4.size (fun b hb => by rw [hb]; exact h4.ge _ hgm), ⟨a', (HBN.out.setI i 1).setI i 2, by have := HA'.out; omega⟩, F.out, cX5, l4.kept k5 (fun g _ _ hv e => (HGO.out g (.inr hv)).1 (by rw [e]; exact hgm)), fun b hb => ⟨(HGO.out b hb).1, Nat.lt_of_lt_of_le (HGO.out b hb).2 hszw⟩⟩
            clear h4 l4 hb4 B4 h5 k5 hXo hgm hXg hszw hb y7 HF cX3 b7
            go_wp2_with fail
            go_roundw
            case rel => exact ⟨j + 1, _, av, by omega, by simp, G5.out⟩
            case measure => simp [intOf]; omega
          | true =>
            rw [hf] at HF
            have F : Hid (againGo js now (L.drop (j + 1)) { setI s' i 1 with ag := s'.ag ++ [(i : Int)] } = again js now s) := Lib.hid (by rw [← HHE.out, hf]; rfl)
            clear hf
            go_region_held3 (fun W => W.cell? ⟨X, 0, none⟩ = some (.pointer (some ⟨d.p, 0, none⟩)) ∧ W.cell? ⟨d.p, 7, none⟩ = some (.int .i64 now)) (first | exact ⟨cX3, b7⟩ | exact ⟨y, y7⟩) (first | (go_at_call 66; refine HF.mono ?_; rintro e w4 ⟨rfl, hb⟩; have y := (hb.cell (World.block_lt_of_cell? _ _ cX3)).trans cX3; have y7 := (hb.cell (World.block_lt_of_cell? _ _ b7)).trans b7))
            have h4 := (H3.out.down HBD.out).down hb
            have l4 := Has.down (Has.down HL3.out HBD.out) hb
            have hb4 := HBD.out.trans (hb.mono HBD.out.size)
            have B4 := HB3.out.trans (hb4.mono HB3.out.size)
            obtain ⟨AV, cV, hav⟩ := own_shape (v := av) h4.A
            subst hav
            have b6 : w4.cell? ⟨d.p, 6, none⟩ = some (.slice AV s'.ag.length cV) := h4.B.cellAt (i := 6) rfl
            have H4 := Lib.hid h4
            have L4 := Lib.hid l4
            have HHB4 := Lib.hid hb4
            have HB4 := Lib.hid B4
            have hlen := HBN.out.ag
            have hha := HA'.out
            have hha2 := HA.out
            have hm12 := HM12.out
            clear h4 l4 hb4 B4 HF cX3 b7 hb y7
            go_upto_region 15 with fail
            refine wpU_begin (S := (fun W => W.cell? ⟨X, 0, none⟩ = some (.pointer (some ⟨d.p, 0, none⟩)) ∧ W.cell? ⟨d.p, 6, none⟩ = some (.slice AV s'.ag.length cV))) (U := 12) (by kernel_rfl) ?_
            have hd4 := below_drew w4
            have H5 := H4.out.down hd4
            have L5 := Has.down L4.out hd4
            have B5 := HB4.out.trans (hd4.mono HB4.out.size)
            have Z5 := Nat.le_trans HSZ.out (Nat.le_trans HHB4.out.size hd4.size)
            have y5 : w4.drew.cell? ⟨X, 0, none⟩ = some (.pointer (some ⟨d.p, 0, none⟩)) := y
            have b65 : w4.drew.cell? ⟨d.p, 6, none⟩ = some (.slice AV s'.ag.length cV) := b6
            clear hd4 H4 L4 HB4 HHB4 HSZ
            generalize w4.drew = w5 at *
            clear y b6
            refine wpU_load (i := 0) (oi := ⟨some 51, _, _, _, _, _⟩) (v := ?_) rfl (by kernel_rfl) (by kernel_rfl) (by kernel_rfl) (fun _ _ _ h => h) (by decide) (by kernel_rfl) (by kernel_rfl) (Or.inl ⟨by kernel_rfl, ?_⟩) ⟨y5, b65⟩ ?_
            rotate_left
            · intro w hSw; (try dsimp only at hSw); obtain ⟨q1, q2⟩ := hSw; go_simp; try with_reducible rfl
            rotate_left
            try simp only [Act.put, List.setIfInBounds_toArray, List.set_cons_zero, List.set_cons_succ]
            refine wpU_load (i := 1) (oi := ⟨some 52, _, _, _, _, _⟩) (v := ?_) rfl (by kernel_rfl) (by kernel_rfl) (by kernel_rfl) (fun _ _ _ h => h) (by decide) (by kernel_rfl) (by kernel_rfl) (Or.inl ⟨by kernel_rfl, ?_⟩) ⟨y5, b65⟩ ?_
            rotate_left
            · intro w hSw; (try dsimp only at hSw); obtain ⟨q1, q2⟩ := hSw; go_simp; try with_reducible rfl
            rotate_left
            try simp only [Act.put, List.setIfInBounds_toArray, List.set_cons_zero, List.set_cons_succ]
            refine wpU_take (i := 2) (oi := ⟨some 53, _, _, _, _, _⟩) (v := ?_) rfl (by kernel_rfl) (by kernel_rfl) (by kernel_rfl) (fun _ _ _ h => h) (by decide) (fun _ => ⟨y5, b65⟩) (Or.inl ⟨by kernel_rfl, ?_⟩) ?_
            rotate_left
            · intro w hSw; go_simp; try with_reducible rfl
            rotate_left
            try simp only [Act.put, List.setIfInBounds_toArray, List.set_cons_zero, List.set_cons_succ]
            refine wpU_take (i := 3) (oi := ⟨some 54, _, _, _, _, _⟩) (v := ?_) rfl (by kernel_rfl) (by kernel_rfl) (by kernel_rfl) (fun _ _ _ h => h) (by decide) (fun _ => ⟨y5, b65⟩) (Or.inl ⟨by kernel_rfl, ?_⟩) ?_
            rotate_left
            · intro w hSw; go_simp; try with_reducible rfl
            rotate_left
            try simp only [Act.put, List.setIfInBounds_toArray, List.set_cons_zero, List.set_cons_succ]
            refine wpU_take (i := 4) (oi := ⟨some 55, _, _, _, _, _⟩) (v := ?_) rfl (by kernel_rfl) (by kernel_rfl) (by kernel_rfl) (fun _ _ _ h => h) (by decide) (fun _ => ⟨y5, b65⟩) (Or.inl ⟨by kernel_rfl, ?_⟩) ?_
            rotate_left
            · intro w hSw; go_simp; try with_reducible rfl
            rotate_left
            try simp only [Act.put, List.setIfInBounds_toArray, List.set_cons_zero, List.set_cons_succ]
            refine wpU_load (i := 5) (oi := ⟨some 56, _, _, _, _, _⟩) (v := ?_) rfl (by kernel_rfl) (by kernel_rfl) (by kernel_rfl) (fun _ _ _ h => h) (by decide) (by kernel_rfl) (by kernel_rfl) (Or.inl ⟨by kernel_rfl, ?_⟩) ⟨y5, b65⟩ ?_
            rotate_left
            · intro w hSw; (try dsimp only at hSw); obtain ⟨q1, q2⟩ := hSw; go_simp; try with_reducible rfl
            rotate_left
            try simp only [Act.put, List.setIfInBounds_toArray, List.set_cons_zero, List.set_cons_succ]
            refine wpU_take (i := 6) (oi := ⟨some 57, _, _, _, _, _⟩) (v := ?_) rfl (by kernel_rfl) (by kernel_rfl) (by kernel_rfl) (fun _ _ _ h => h) (by decide) (fun _ => ⟨y5, b65⟩) (Or.inl ⟨by kernel_rfl, ?_⟩) ?_
            rotate_left
            · intro w hSw; go_simp; try with_reducible rfl
            rotate_left
            try simp only [Act.put, List.setIfInBounds_toArray, List.set_cons_zero, List.set_cons_succ]
            refine wpU_ready (rs := [7]) (by kernel_rfl) (by simp) ?_
            refine AllReadyU.cons (o := ⟨some 58, _, _, _, _, _⟩) rfl (fun K hK => ?_) AllReadyU.nil
            go_simp
            have ba := (Below.refl w5.heap.size w5).alloc (Nat.le_refl _) (.cells #[.int .i64 (i : Int)] 3)
            have H6 := H5.down ba
            have O6 : (w5.alloc (.cells #[.int .i64 (i : Int)] 3)).ownsRow w0.heap.size 3 1 (.slice AV s'.ag.length cV) s'.ag.length (s'.ag.map iv) := H6.A
            have N6 := Has.box w5 3 1 1 [.int .i64 (i : Int)] rfl (by unfold maxLen; omega)
            have y6 := (ba.cell (World.block_lt_of_cell? _ _ y5)).trans y5
            have b66 := (ba.cell (World.block_lt_of_cell? _ _ b65)).trans b65
            have L6 := Has.down L5 ba
            have B6 := B5.trans (ba.mono B5.size)
            have Z6 := Nat.le_trans Z5 ba.size
            have hn5 : w5.heap.size < (w5.alloc (.cells #[.int .i64 (i : Int)] 3)).heap.size := by simp
            dsimp only [List.toArray] at N6
            generalize w5.alloc (.cells #[.int .i64 (i : Int)] 3) = w6 at *
            refine hK.out _ _ (fun _ => ⟨y6, b66⟩) ?_
            clear hK K
            try simp only [Act.put, List.setIfInBounds_toArray, List.set_cons_zero, List.set_cons_succ]
            refine wpU_ready (rs := [8]) (by kernel_rfl) (by simp) ?_
            refine AllReadyU.cons (o := ⟨some 59, _, _, _, _, _⟩) rfl (fun K hK => ?_) AllReadyU.nil
            refine step_append_has rfl (.tmp 56) (.tmp 58) 23 rfl i0 _ 8 Tryz.underlying23 hI0 hz0 hz1 hz2 rfl (by decide) (by simp [Act.eval, Act.put]) O6 (some ⟨w5.heap.size, 0, none⟩) 1 1 [.int .i64 (i : Int)] (by simp [Act.eval, Act.put]) N6 (iv_one [(i : Int)]) (by unfold maxLen; omega) (by omega) B6.size ?_
            intro v7 w7 own7 g7 at7
            obtain ⟨A7, c7, hv7⟩ := own_shape own7
            subst hv7
            have K7 : Keeps (Turn d.p (.slice AV s'.ag.length cV)) w6 w7 := keeps_grown (Keeps.refl _ w6) g7 (fun g hg => .inl (.inr hg))
            have hXo := HGO.out X (.inl rfl)
            have hTb : ∀ b, Turn d.p (.slice AV s'.ag.length cV) b → b ∈ ({ d with av := .slice AV s'.ag.length cV } : Adr).blocks := by
              rintro b (rfl | hb)
              · simp [Adr.blocks]
              · simp only [Adr.blocks, List.mem_cons, List.mem_append]; exact .inr (.inr (.inr (.inr (.inl (.inr (ob_mem.2 hb))))))
            have hnp : (Value.slice AV s'.ag.length cV).ownBlock ≠ some d.p := fun e => (H6.apt.o d.p (by simp only [List.mem_append]; exact .inl (.inr (ob_mem.2 e)))).1 rfl
            have y7 : w7.cell? ⟨X, 0, none⟩ = some (.pointer (some ⟨d.p, 0, none⟩)) := by
              rw [World.cell?_of_block (a := ⟨X, 0, none⟩) (K7.block X (World.block_lt_of_cell? _ _ y6) (fun e => hXo.1 (hTb X e)))]; exact y6
            have BP7 := H6.B.grown g7 hnp
            have f7 := BP7.frozen
            have b67 : w7.cell? ⟨d.p, 6, none⟩ = some (.slice AV s'.ag.length cV) := BP7.cellAt (i := 6) rfl
            refine hK.out _ _ (fun _ => ⟨y7, b67⟩) ?_
            clear hK K
            try simp only [Act.put, List.setIfInBounds_toArray, List.set_cons_zero, List.set_cons_succ]
            refine wpU_take (i := 9) (oi := ⟨some 60, _, _, _, _, _⟩) (v := ?_) rfl (by kernel_rfl) (by kernel_rfl) (by kernel_rfl) (fun _ _ _ h => h) (by decide) (fun _ => ⟨y7, b67⟩) (Or.inl ⟨by kernel_rfl, ?_⟩) ?_
            rotate_left
            · intro w hSw; go_simp; try with_reducible rfl
            rotate_left
            try simp only [Act.put, List.setIfInBounds_toArray, List.set_cons_zero, List.set_cons_succ]
            refine wpU_take (i := 10) (oi := ⟨some 61, _, _, _, _, _⟩) (v := ?_) rfl (by kernel_rfl) (by kernel_rfl) (by kernel_rfl) (fun _ _ _ h => h) (by decide) (fun _ => ⟨y7, b67⟩) (Or.inl ⟨by kernel_rfl, ?_⟩) ?_
            rotate_left
            · intro w hSw; go_simp; try with_reducible rfl
            rotate_left
            try simp only [Act.put, List.setIfInBounds_toArray, List.set_cons_zero, List.set_cons_succ]
            refine wpU_take (i := 11) (oi := ⟨some 62, _, _, _, _, _⟩) (v := ?_) rfl (by kernel_rfl) (by kernel_rfl) (by kernel_rfl) (fun _ _ _ h => h) (by decide) (fun _ => ⟨y7, b67⟩) (Or.inl ⟨by kernel_rfl, ?_⟩) ?_
            rotate_left
            · intro w hSw; go_simp; try with_reducible rfl
            rotate_left
            try simp only [Act.put, List.setIfInBounds_toArray, List.set_cons_zero, List.set_cons_succ]
            refine wpU_ready (rs := [12]) (by kernel_rfl) (by simp) ?_
            refine AllReadyU.cons (o := ⟨none, _, _, _, _, _⟩) rfl (fun K hK => ?_) AllReadyU.nil
            go_simp
            refine hK.out _ _ (fun h => absurd h (by decide)) ?_
            clear hK K
            try simp only [Act.put, List.setIfInBounds_toArray, List.set_cons_zero, List.set_cons_succ]
            refine wpU_done (by kernel_rfl) ?_ _
            have K8 := K7.setCell ⟨d.p, 6, none⟩ (.inl (show Turn _ _ d.p from .inl rfl)) (.slice A7 (s'.ag.length + 1) c7)
            have hp6 : d.p < w6.heap.size := H6.lt d.p (by simp [Adr.blocks])
            have hne7 : (Value.slice A7 (s'.ag.length + 1) c7).ownBlock ≠ some d.p := by
              rcases at7 with e | e
              · rw [e]; exact hnp
              · rw [e]; intro e2; have := Option.some.inj e2; omega
            have hS7 := own_kept own7 ((keep1 d.p w7).setCell ⟨d.p, 6, none⟩ (.inl rfl) (.slice A7 (s'.ag.length + 1) c7)) (fun g _ _ hg e => hne7 (by rw [hg, e]))
            have hS' : (w7.setCell ⟨d.p, 6, none⟩ (.slice A7 (s'.ag.length + 1) c7)).ownsRow w0.heap.size 3 1 (.slice A7 (s'.ag.length + 1) c7) (s'.ag ++ [(i : Int)]).length ((s'.ag ++ [(i : Int)]).map iv) := by
              rw [List.length_append, List.map_append]; exact hS7
            have hN := H6.ags B6.size K8 (Fresh.of at7 (Nat.le_refl _)) (BP7.set_ 6 _) hS'
            have hTb2 := fun b hb => hTb b hb
            have cX8 : (w7.setCell ⟨d.p, 6, none⟩ (.slice A7 (s'.ag.length + 1) c7)).cell? ⟨X, 0, none⟩ = some (.pointer (some ⟨d.p, 0, none⟩)) := by
              rw [World.cell?_of_block (a := ⟨X, 0, none⟩) (K8.block X (World.block_lt_of_cell? _ _ y6) (fun e => hXo.1 (hTb X e)))]; exact y6
            have L8 := L6.kept K8 (fun g _ _ hv e => (HGO.out g (.inr hv)).1 (hTb g e))
            have hszw := Nat.le_trans Z6 K8.size
            have HBN2 := HBN.out.setI i 1
            have G8 : Hid (Ag w0 d js s now a X _ m L (j + 1) _ (.slice A7 (s'.ag.length + 1) c7) (w7.setCell ⟨d.p, 6, none⟩ (.slice A7 (s'.ag.length + 1) c7))) := Lib.hid ⟨hN, below_keeps B6 K8 B6.size (fun b hb => H6.ge b (hTb b hb)), ⟨a' + 1, ⟨⟨HBN2.len.is, HBN2.len.ran, HBN2.len.fs⟩, HBN2.ran, HBN2.ch, HBN2.shs, by have := HBN.out.tr; show s'.tr.length ≤ _; omega, by have := HBN.out.sh; show s'.sh.length ≤ _; omega, by simp; omega⟩, by omega⟩, F.out, cX8, L8, fun b hb => by
              have hbo := HGO.out b hb
              refine ⟨fun hm => ?_, Nat.lt_of_lt_of_le hbo.2 hszw⟩
              rw [blocks_a] at hm
              simp only [List.mem_append] at hm
              have hold : b ∉ ({ d with av := .slice AV s'.ag.length cV } : Adr).blocks := hbo.1
              rw [blocks_a] at hold
              simp only [List.mem_append, not_or] at hold
              rcases hm with (hm | hm) | hm
              · exact hm.elim (fun hm => hm.elim hold.1.1.1.1 hold.1.1.1.2) hold.1.1.2
              · rw [ob_mem] at hm
                rcases at7 with e | e
                · rw [e] at hm; exact hold.1.2 (ob_mem.2 hm)
                · rw [e] at hm; have := Option.some.inj hm; omega
              · exact hold.2 hm⟩
            clear K8 hp6 hne7 hS7 hS' hN hTb2 cX8 L8 hszw HBN2 K7 own7 g7 at7 hXo hTb hnp y7 BP7 f7 b67 y6 b66 L6 B6 Z6 H6 O6 N6 H5 L5 B5 Z5 y5 b65
            go_wp2_with fail
            go_roundw
            case rel => exact ⟨j + 1, _, _, by omega, by simp, G8.out⟩
            case measure => simp [intOf]; omega
        · have hj1 : ¬ (j : Int) < (m : Int) := by omega
          have hjm : L.drop j = [] := List.drop_eq_nil_of_le (by omega)
          have he := G.e
          rw [hjm] at he
          have HHE : Hid (s' = again js now s) := Lib.hid he
          have HG2 := Lib.hid G
          clear he hjm G
          go_wp2_with fail
          go_end0
          first | exact ⟨rfl, av, by rw [← HHE.out]; exact HG2.out.h, HG2.out.B⟩ | exact ⟨rfl, ⟨av, by rw [← HHE.out]; exact HG2.out.h⟩, HG2.out.B⟩
end
end Rob
end Go.Proofs.YtbgiegecfapmlaaGreatDoor
