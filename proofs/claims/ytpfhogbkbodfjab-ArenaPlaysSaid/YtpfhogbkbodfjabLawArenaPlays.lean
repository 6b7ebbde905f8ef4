/- The law ArenaPlays returns true at every input and leaves its arguments alone. Conditions: none. -/
import Derived.Test.YtpfhogbkbodfjabArMem
import Derived.Test.YtpfhogbkbodfjabArgs
import Derived.Test.YtpfhogbkbodfjabArCnt
import Derived.Deep.RegionHeld3
import Derived.Deep.DeepCutAuto
import Derived.Deep.CutBlock
namespace Go.Proofs.Ytpfhogbkbodfjab
open Go.RowKit Go.ChangeShapes Go.WideShapes Go.ChangeAt Go.Deep
set_option linter.unusedVariables false
set_option linter.unusedSimpArgs false
namespace ArenaPlays
open Ar ArU
/-- What holds at each round's start. -/
def Inv (w : World) (p q room n1 : Nat) (v i : Value) (wr : World) : Prop :=
  ∃ (k : Nat) (F G : Nat → Prop) (ps : List Pl) (fr : List Nat) (hs : List (Nat × Int)), k ≤ n1 ∧ i = .int .i64 k ∧ Mem w p q F G room ps fr ps fr v hs wr ∧ Hid (Ok room ps fr k ∧ Cnt ps fr ∧ hs.length ≤ k)
/-- Behind the first choice: the handle that is asked of. -/
def Cut1 (w : World) (p q : Nat) (F G : Nat → Prop) (room : Nat) (ps : List Pl) (fr : List Nat) (told : Value) (hs : List (Nat × Int)) (xb : Nat) (O0 N0 S0 G0 : Int) (V0 : ByteArray) (wx : World) : Prop :=
  ∃ s g : Int, Blk wx (xb + 1) 42 [.int .i64 s, .int .i64 g] ∧ Blk wx xb 62 [.int .i64 O0, .int .i64 N0, .int .i64 S0, .int .i64 G0, .string V0] ∧ Mem w p q F G room ps fr ps fr told hs wx
/-- Behind the word: ok, and both arenas alike. -/
def Cut2 (w : World) (p q room k : Nat) (told ok : Value) (wx : World) : Prop :=
  ok = .bool true ∧ ∃ (F G : Nat → Prop) (ps : List Pl) (fr : List Nat) (hs : List (Nat × Int)), Mem w p q F G room ps fr ps fr told hs wx ∧ Hid (Ok room ps fr (k + 1) ∧ Cnt ps fr ∧ hs.length ≤ k + 1)
/-- .. and the rows of all handles. -/
def Rows2 (w : World) (p q : Nat) (F G : Nat → Prop) (room : Nat) (ps : List Pl) (fr : List Nat) (told : Value) (hs hd : List (Nat × Int)) (n : Nat) (As : Option Addr) (cs : Nat) (Ag : Option Addr) (cg : Nat) (Am : Option Addr) (cm : Nat) (wx : World) : Prop :=
  Mem w p q F G room ps fr ps fr told hs wx ∧ Has wx 3 1 (.slice As n cs) n (RefAr.slots hd) ∧ Has wx 2 1 (.slice Ag n cg) n (RefAr.gs hd) ∧ Has wx 42 2 (.slice Am n cm) n (hd.flatMap ArS.hf)
theorem mem_other {w : World} {p q room : Nat} {F G : Nat → Prop} {ps ps' : List Pl} {fr fr' : List Nat} {told : Value} {hs : List (Nat × Int)} {w1 w2 : World} (h : Mem w p q F G room ps fr ps' fr' told hs w1) {x : Nat} (k : Keeps (· = x) w1 w2) (hF : ¬ F x) (hG : ¬ G x) (hT : told.ownBlock ≠ some x) (hx : w.heap.size ≤ x) : Mem w p q F G room ps fr ps' fr' told hs w2 :=
  ⟨h.P.kept k (fun b hb e => hF (e ▸ hb)), h.Q.kept k (fun b hb e => hG (e ▸ hb)), own_kept h.T k (fun b _ _ hb e => hT (e ▸ hb)), h.bF, h.bG, h.dj, below_keeps h.B k h.z (fun b e => by rw [show b = x from e]; exact hx), Nat.le_trans h.z k.size⟩
theorem told_at {w : World} {B : Nat} {TA : Option Addr} {tc n : Nat} {hs : List (Nat × Int)} {x : Nat × Int} (h : w.ownsRow B 42 2 (.slice TA hs.length tc) hs.length (hs.flatMap ArS.hf)) (hx : hs[n]? = some x) :
    ∃ g, TA = some ⟨g, 0, none⟩ ∧ w.cell? ⟨g, n * 2, none⟩ = some (.int .i64 (x.1 : Int)) ∧ w.cell? ⟨g, n * 2 + 1, none⟩ = some (.int .i64 x.2) := by
  have hi := (List.getElem?_eq_some_iff.1 hx).1
  rcases h.2 with ⟨_, h0⟩ | ⟨g, cap, cur, hv, _⟩
  · omega
  · injection hv with hA _ hc
    subst hA hc
    refine ⟨g, rfl, ?_, ?_⟩
    · rw [h.cellAt _ (by omega)]
      exact flat_at ArS.hf_len hx (j := 0) rfl
    · rw [h.cellAt _ (by omega)]
      exact flat_at ArS.hf_len hx (j := 1) rfl
theorem put_slot {room : Nat} {ps ps' : List Pl} {fr fr' : List Nat} {v : ByteArray} {s g e : Int} (P : Put room ps fr v s g e ps' fr') : ∃ i : Nat, s = (i : Int) := by
  rcases P with ⟨i, x, _, _, h, _⟩ | ⟨_, _, _, h, _⟩ | ⟨_, _, _, h, _⟩
  · exact ⟨i, h⟩
  · exact ⟨0, h⟩
  · exact ⟨_, h⟩
set_option maxRecDepth 100000 in
set_option maxHeartbeats 8000000 in
theorem walk_in (room : Nat) (A1 : Option Addr) (n1 c1 : Nat) (x1 : List Act4) (w : World) (r1 : Row Act4.cells 5 w A1 n1 x1) (hr1 : 1 ≤ room) (hr2 : room ≤ 1000) (hn : n1 ≤ 80) :
    Calls Try.prog 8 #[.int .i64 (room : Int), .slice A1 n1 c1] w fun e w' => e = .returned (.bool true) ∧ Below w.heap.size w w' := by
  go_enter Try.func8, Try.ntmps8
  go_wp2_with fail
  refine (ArS.awake_ok w).mono ?_
  rintro e wa ⟨rfl, ba⟩
  go_wp2_with fail
  refine (ArS.new_m room w wa ba hr1 hr2).mono ?_
  rintro e wb ⟨p, F, rfl, MP, kb⟩
  have kq := (Keeps.refl (fun _ => False) wb).alloc (.cells #[.int .i64 (room : Int), .slice none 0 0, .slice none 0 0, .slice none 0 0, .slice none 0 0] 60)
  have MP2 := MP.keep kq
  have M1 : Mem w p wb.heap.size F (· = wb.heap.size) room [] [] [] [] (.slice none 0 0) [] (wb.alloc (.cells #[.int .i64 (room : Int), .slice none 0 0, .slice none 0 0, .slice none 0 0, .slice none 0 0] 60)) :=
    ⟨MP2.P, RefAr.is_new wb room, World.ownsRow_nil _ _ _ _, MP2.bF, fun b hb => hb ▸ MP.z, fun b hf hg => by have := MP.P.lt b hf; have hg' : b = wb.heap.size := hg; omega, MP2.B, MP2.z⟩
  have X0 : Ok room [] [] 0 := ⟨by simp, hr2, by simp, by omega, by simp, by simp⟩
  clear ba kb kq MP MP2
  go_wp2_with fail
  generalize wb.alloc (.cells #[.int .i64 (room : Int), .slice none 0 0, .slice none 0 0, .slice none 0 0, .slice none 0 0] 60) = wc at *
  generalize (fun b => b = wb.heap.size) = G at M1
  generalize wb.heap.size = q at *
  go_loopw [8, 9] (fun v i wr => Inv w p q room n1 v i wr) (fun _ i _ => n1 - (intOf i).toNat)
  case atStart => exact ⟨0, _, _, _, _, [], by omega, rfl, M1, Lib.hid ⟨X0, ⟨by simp, by simp, rfl⟩, Nat.le_refl _⟩⟩
  case round =>
    clear M1 X0
    obtain ⟨k, F, G, ps, fr, hs, hk, rfl, M, HX⟩ := hrel
    by_cases hlt : k < n1
    · obtain ⟨bb, off, y, rfl, hy, hbl, hcc⟩ := r1.at_ M.B hlt
      have d0 := hcc 0 _ rfl
      have d1 : wr.cell? ⟨bb, off + k * 5 + 1, none⟩ = some (.int .i64 y.n) := hcc 1 _ rfl
      have d2 : wr.cell? ⟨bb, off + k * 5 + 2, none⟩ = some (.int .i64 y.s) := hcc 2 _ rfl
      have d3 : wr.cell? ⟨bb, off + k * 5 + 3, none⟩ = some (.int .i64 y.g) := hcc 3 _ rfl
      have d4 : wr.cell? ⟨bb, off + k * 5 + 4, none⟩ = some (.string y.v) := hcc 4 _ rfl
      have d0 : wr.cell? ⟨bb, off + k * 5, none⟩ = some (.int .i64 y.o) := d0
      obtain ⟨O0, N0, S0, G0, V0, hO, hN, hS, hG, hV⟩ := y
      dsimp only at d0 d1 d2 d3 d4
      clear hcc hy r1
      have hk0 : (0 : Int) ≤ (k : Int) := by omega
      have hk1 : (k : Int) < (n1 : Int) := by omega
      have Xx := Blk.new wr 62 [.int .i64 O0, .int .i64 N0, .int .i64 S0, .int .i64 G0, .string V0]
      have Mx := M.keep ((Keeps.refl (fun _ => False) wr).alloc (.cells #[.int .i64 O0, .int .i64 N0, .int .i64 S0, .int .i64 G0, .string V0] 62))
      have x1c : (wr.alloc (.cells #[.int .i64 O0, .int .i64 N0, .int .i64 S0, .int .i64 G0, .string V0] 62)).cell? ⟨wr.heap.size, 1, none⟩ = some (.int .i64 N0) := Xx.cellAt (i := 1) rfl
      have x2c : (wr.alloc (.cells #[.int .i64 O0, .int .i64 N0, .int .i64 S0, .int .i64 G0, .string V0] 62)).cell? ⟨wr.heap.size, 2, none⟩ = some (.int .i64 S0) := Xx.cellAt (i := 2) rfl
      have x3c : (wr.alloc (.cells #[.int .i64 O0, .int .i64 N0, .int .i64 S0, .int .i64 G0, .string V0] 62)).cell? ⟨wr.heap.size, 3, none⟩ = some (.int .i64 G0) := Xx.cellAt (i := 3) rfl
      have Xh := Blk.new (wr.alloc (.cells #[.int .i64 O0, .int .i64 N0, .int .i64 S0, .int .i64 G0, .string V0] 62)) 42 [.int .i64 S0, .int .i64 G0]
      have Mh := Mx.keep ((Keeps.refl (fun _ => False) _).alloc (.cells #[.int .i64 S0, .int .i64 G0] 42))
      have Xy := Xx.alloc (.cells #[.int .i64 S0, .int .i64 G0] 42)
      have y1c : ((wr.alloc (.cells #[.int .i64 O0, .int .i64 N0, .int .i64 S0, .int .i64 G0, .string V0] 62)).alloc (.cells #[.int .i64 S0, .int .i64 G0] 42)).cell? ⟨wr.heap.size, 1, none⟩ = some (.int .i64 N0) := Xy.cellAt (i := 1) rfl
      have y0c : ((wr.alloc (.cells #[.int .i64 O0, .int .i64 N0, .int .i64 S0, .int .i64 G0, .string V0] 62)).alloc (.cells #[.int .i64 S0, .int .i64 G0] 42)).cell? ⟨wr.heap.size, 0, none⟩ = some (.int .i64 O0) := Xy.cellAt (i := 0) rfl
      have y4c : ((wr.alloc (.cells #[.int .i64 O0, .int .i64 N0, .int .i64 S0, .int .i64 G0, .string V0] 62)).alloc (.cells #[.int .i64 S0, .int .i64 G0] 42)).cell? ⟨wr.heap.size, 4, none⟩ = some (.string V0) := Xy.cellAt (i := 4) rfl
      have hsz : (wr.alloc (.cells #[.int .i64 O0, .int .i64 N0, .int .i64 S0, .int .i64 G0, .string V0] 62)).heap.size = wr.heap.size + 1 := by simp
      rw [hsz] at Xh
      have htl : ∀ b, u8.ownBlock = some b → b < wr.heap.size := fun b h => (M.T.lt b h).2
      have hxB : w.heap.size ≤ wr.heap.size + 1 := by have := M.z; omega
      have hF0 : ¬ F wr.heap.size := fun h => by have := M.P.lt _ h; omega
      have hF1 : ¬ F (wr.heap.size + 1) := fun h => by have := M.P.lt _ h; omega
      have hG0 : ¬ G wr.heap.size := fun h => by have := M.Q.lt _ h; omega
      have hG1 : ¬ G (wr.heap.size + 1) := fun h => by have := M.Q.lt _ h; omega
      clear M
      obtain ⟨TA, tc, htold⟩ := own_shape Mh.T
      subst htold
      have HTL := Lib.hid htl
      clear htl
      clear x1c x2c x3c Xx Mx hsz
      go_upto_region 15 with fail
      clear d0 d1 d2 d3 d4
      generalize (wr.alloc (.cells #[.int .i64 O0, .int .i64 N0, .int .i64 S0, .int .i64 G0, .string V0] 62)).alloc (.cells #[.int .i64 S0, .int .i64 G0] 42) = wv at *
      generalize wr.heap.size = xb at *
      obtain ⟨tb, htb⟩ : ∃ tb : Bool, tb = decide (0 ≤ N0 ∧ N0 < (hs.length : Int)) := ⟨_, rfl⟩
      have HTB := Lib.hid htb
      clear htb
      go_cut [86] (fun t wx => t = .bool tb ∧ wx = wv)
      case first =>
        by_cases hT0 : 0 ≤ N0
        · by_cases hT1 : N0 < (hs.length : Int)
          · have e : tb = true := by rw [HTB.out]; simp; exact ⟨hT0, hT1⟩
            clear HTB
            subst e
            go_wp2_with fail
            go_meet
            exact ⟨rfl, rfl⟩
          · have e : tb = false := by rw [HTB.out]; simp; omega
            clear HTB
            subst e
            have hT2 : (hs.length : Int) ≤ N0 := by omega
            go_wp2_with fail
            go_meet
            exact ⟨rfl, rfl⟩
        · have e : tb = false := by rw [HTB.out]; simp; omega
          clear HTB
          subst e
          go_wp2_with fail
          go_meet
          exact ⟨rfl, rfl⟩
      case rest =>
        obtain ⟨rfl, rfl⟩ := hcut
        go_upto_if 86 with fail
        go_cut [12] (fun _ wx => Cut1 w p q F G room ps fr (.slice TA hs.length tc) hs xb O0 N0 S0 G0 V0 wx)
        case first =>
          cases tb with
          | true =>
            have hT : 0 ≤ N0 ∧ N0 < (hs.length : Int) := by have := HTB.out; simpa using this.symm
            obtain ⟨n, hn0⟩ := Int.eq_ofNat_of_zero_le hT.1
            have hn' : n < hs.length := by omega
            subst hn0
            obtain ⟨x, hx⟩ : ∃ x, hs[n]? = some x := ⟨_, List.getElem?_eq_getElem hn'⟩
            obtain ⟨gt, rfl, t0, t1⟩ := told_at Mh.T hx
            have fh := Xh.frozen
            have xh0 := Xh.cellAt (i := 0) rfl
            have xh1 := Xh.cellAt (i := 1) rfl
            have hn0 : (0 : Int) ≤ (n : Int) := by omega
            have hn1 : (n : Int) < (hs.length : Int) := by omega
            have hgx : (Value.slice (some ⟨gt, 0, none⟩) hs.length tc).ownBlock ≠ some (xb + 1) := fun e => by have := HTL.out _ e; omega
            have M7 := mem_other Mh (((keep1 (xb + 1) _).setCell ⟨xb + 1, 0, none⟩ (.inl rfl) (.int .i64 (x.1 : Int))).setCell ⟨xb + 1, 1, none⟩ (.inl rfl) (.int .i64 x.2)) hF1 hG1 hgx hxB
            have H7 := (Xh.set_ 0 (.int .i64 (x.1 : Int))).set_ 1 (.int .i64 x.2)
            have X7 := (Xy.far (p := ⟨xb + 1, 0, none⟩) (fun e => Nat.ne_of_lt (Nat.lt_succ_self xb) e) (.int .i64 (x.1 : Int))).far (p := ⟨xb + 1, 1, none⟩) (fun e => Nat.ne_of_lt (Nat.lt_succ_self xb) e) (.int .i64 x.2)
            clear Mh Xh Xy hT hn' hx hgx HTB
            go_wp2_with fail
            go_meet
            exact ⟨_, _, H7, X7, M7⟩
          | false =>
            go_wp2_with fail
            go_meet
            exact ⟨S0, G0, Xh, Xy, Mh⟩
        case rest =>
          clear Mh Xh Xy y1c y0c y4c
          obtain ⟨s, g, Xh, Xy, M⟩ := hcut
          have y0c := Xy.cellAt (i := 0) rfl
          have y4c := Xy.cellAt (i := 4) rfl
          have h0 := Xh.cellAt (i := 0) rfl
          have h1 := Xh.cellAt (i := 1) rfl
          go_upto_block 2 with fail
          go_cut [8, 12] (fun v ok wx => Cut2 w p q room k v ok wx)
          case first =>
            by_cases hop : O0 = 0
            · as_aux_lemma =>
                subst hop
                obtain ⟨s1, g1, e1, ps1, fr1, PU⟩ := HX.out.1.put V0
                have HX1 : Hid (Ok room ps1 fr1 (k + 1) ∧ Cnt ps1 fr1 ∧ hs.length ≤ k) := Lib.hid ⟨PU.ok HX.out.1 (by omega), Cnt.put PU HX.out.2.1, HX.out.2.2⟩
                have HP := Lib.hid PU
                clear PU
                go_wp2_with fail
                refine (prog_put V0 M.P HX.out.1 HP.out).mono ?_
                rintro e w5 ⟨rfl, ⟨F5, P5, f5⟩, k5⟩
                have M5 := M.onP k5 P5 f5
                have X5 := Xy.kept k5 hF0
                clear M P5 f5 k5 Xh Xy y0c h0 h1 y4c
                have M6 := M5.keep ((Keeps.refl (fun _ => False) w5).alloc (.cells #[.int .i64 s1, .int .i64 g1] 42))
                have X6 := X5.alloc (.cells #[.int .i64 s1, .int .i64 g1] 42)
                have H6 := Blk.new w5 42 [.int .i64 s1, .int .i64 g1]
                have hGn : ¬ G w5.heap.size := fun h => by have := M5.Q.lt _ h; omega
                have x64 : (w5.alloc (.cells #[.int .i64 s1, .int .i64 g1] 42)).cell? ⟨xb, 4, none⟩ = some (.string V0) := X6.cellAt (i := 4) rfl
                clear M5 X5
                go_wp2_with fail
                refine (ref_put V0 M6.Q HX.out.1 HP.out).mono ?_
                rintro e w7 ⟨rfl, ⟨G7, Q7, f7⟩, k7⟩
                have M7 := M6.onQ k7 Q7 f7
                have H7 := H6.kept k7 hGn
                clear M6 H6 X6 x64 Q7 f7 k7 hGn HX
                generalize w5.heap.size = hb at *
                have h70 : w7.cell? ⟨hb, 0, none⟩ = some (.int .i64 s1) := H7.cellAt (i := 0) rfl
                have h71 : w7.cell? ⟨hb, 1, none⟩ = some (.int .i64 g1) := H7.cellAt (i := 1) rfl
                by_cases he : e1 = 0
                · subst he
                  obtain ⟨i1, rfl⟩ : ∃ i1 : Nat, s1 = (i1 : Int) := put_slot HP.out
                  obtain ⟨i0, hi0, hz0, hz1, hz2⟩ := info_parts ArS.infoH
                  have hsl := HX1.out.2.2
                  have M8 := M7.keep ((Keeps.refl (fun _ => False) w7).alloc (.cells #[.int .i64 (i1 : Int), .int .i64 g1] 42))
                  clear HP
                  go_wp2_with (at_builtin; refine wpList_append_has rfl (.tmp 138) (.tmp 140) 49 rfl i0 _ 16 Try.underlying49 hi0 hz0 hz1 hz2 rfl (by omega) rfl M8.T (some ⟨w7.heap.size, 0, none⟩) 1 1 [.int .i64 (i1 : Int), .int .i64 g1] rfl (Has.box w7 42 2 1 [.int .i64 (i1 : Int), .int .i64 g1] rfl (by unfold maxLen; omega)) (by intro u hu; simp at hu; rcases hu with rfl | rfl <;> rfl) (by unfold maxLen; omega) (by omega) M8.z ?_; intro v9 w9 own9 g9 at9)
                  have M9 := M8.tell (x := (i1, g1)) own9 g9
                  clear own9 g9 at9
                  go_wp2_with fail
                  go_meet
                  exact ⟨rfl, _, _, _, _, _, M9, Lib.hid ⟨HX1.out.1, HX1.out.2.1, by simp; have := HX1.out.2.2; omega⟩⟩
                · have heb : (e1 == 0) = false := by simpa using he
                  clear HP
                  go_wp2_with fail
                  go_meet
                  exact ⟨rfl, _, _, _, _, _, M7, Lib.hid ⟨HX1.out.1, HX1.out.2.1, by have := HX1.out.2.2; omega⟩⟩
            · have hopb : (O0 == 0) = false := by simpa using hop
              by_cases hop1 : O0 = 1
              · as_aux_lemma =>
                  subst hop1
                  have PG := fun W F (h : ArS.Is W p F room ps fr) => prog_get s g h HX.out.1
                  have RG := fun W G (h : RefAr.Is W q G room ps fr) => ref_get s g h HX.out.1
                  generalize val room ps s g = v1 at PG RG
                  generalize Ar.code room ps s g = c1 at PG RG
                  have HPG := Lib.hid PG
                  have HRG := Lib.hid RG
                  clear PG RG
                  go_wp2_with fail
                  refine (HPG.out _ _ M.P).mono ?_
                  rintro e w5 ⟨rfl, k5⟩
                  have M5 := M.keep k5
                  have H5 := Xh.kept k5 (fun h => h)
                  clear M k5 Xh Xy y0c h0 h1 y4c
                  have h50 := H5.cellAt (i := 0) rfl
                  have h51 := H5.cellAt (i := 1) rfl
                  go_wp2_with fail
                  refine (HRG.out _ _ M5.Q).mono ?_
                  rintro e w6 ⟨rfl, k6⟩
                  have M6 := M5.keep k6
                  clear M5 k6 H5 h50 h51
                  go_wp2_with fail
                  go_meet
                  exact ⟨rfl, _, _, _, _, _, M6, Lib.hid ⟨HX.out.1.next (by omega), HX.out.2.1, by have := HX.out.2.2; omega⟩⟩
              · have hopb1 : (O0 == 1) = false := by simpa using hop1
                by_cases hop2 : O0 = 2
                · as_aux_lemma =>
                    subst hop2
                    have Md := M.keep ((Keeps.refl (fun _ => False) _).drew)
                    obtain ⟨c1, hc1⟩ : ∃ c1, Ar.code room ps s g = c1 := ⟨_, rfl⟩
                    have HC := Lib.hid hc1
                    clear hc1 M
                    go_wp2_with fail
                    clear y0c h0 h1 y4c
                    refine wp_region_held_drew (S := (fun W => W.cell? ⟨xb + 1, 0, none⟩ = some (.int .i64 s) ∧ W.cell? ⟨xb + 1, 1, none⟩ = some (.int .i64 g) ∧ W.cell? ⟨xb, 4, none⟩ = some (.string V0))) (by kernel_rfl) ⟨Xh.drew.cellAt (i := 0) rfl, Xh.drew.cellAt (i := 1) rfl, Xy.drew.cellAt (i := 4) rfl⟩ (fun hHeld => ?_)
                    refine wpAnyH_take (i := 0) (oi := ⟨some 169, _, _, _, _, _⟩) (v := ?_) rfl (by kernel_rfl) (by kernel_rfl) (by kernel_rfl) (fun _ _ _ h => h) (Or.inl ⟨by kernel_rfl, ?_⟩) (by assumption) ?_
                    rotate_left
                    · intro w hSw; (try dsimp only at hSw); go_simp; try with_reducible rfl
                    rotate_left
                    try simp only [Act.put, List.setIfInBounds_toArray, List.set_cons_zero, List.set_cons_succ]
                    refine wpAnyH_take (i := 1) (oi := ⟨some 170, _, _, _, _, _⟩) (v := ?_) rfl (by kernel_rfl) (by kernel_rfl) (by kernel_rfl) (fun _ _ _ h => h) (Or.inl ⟨by kernel_rfl, ?_⟩) (by assumption) ?_
                    rotate_left
                    · intro w hSw; (try dsimp only at hSw); go_simp; try with_reducible rfl
                    rotate_left
                    try simp only [Act.put, List.setIfInBounds_toArray, List.set_cons_zero, List.set_cons_succ]
                    refine wpAnyH_take (i := 2) (oi := ⟨some 171, _, _, _, _, _⟩) (v := ?_) rfl (by kernel_rfl) (by kernel_rfl) (by kernel_rfl) (fun _ _ _ h => h) (Or.inl ⟨by kernel_rfl, ?_⟩) (by assumption) ?_
                    rotate_left
                    · intro w hSw; (try dsimp only at hSw); go_simp; try with_reducible rfl
                    rotate_left
                    try simp only [Act.put, List.setIfInBounds_toArray, List.set_cons_zero, List.set_cons_succ]
                    refine wpAnyH_take (i := 3) (oi := ⟨some 172, _, _, _, _, _⟩) (v := ?_) rfl (by kernel_rfl) (by kernel_rfl) (by kernel_rfl) (fun _ _ _ h => h) (Or.inl ⟨by kernel_rfl, ?_⟩) (by assumption) ?_
                    rotate_left
                    · intro w hSw; (try dsimp only at hSw); go_simp; try with_reducible rfl
                    rotate_left
                    try simp only [Act.put, List.setIfInBounds_toArray, List.set_cons_zero, List.set_cons_succ]
                    refine wpAnyH_take (i := 5) (oi := ⟨some 174, _, _, _, _, _⟩) (v := ?_) rfl (by kernel_rfl) (by kernel_rfl) (by kernel_rfl) (fun _ _ _ h => h) (Or.inl ⟨by kernel_rfl, ?_⟩) (by assumption) ?_
                    rotate_left
                    · intro w hSw; (try dsimp only at hSw); go_simp; try with_reducible rfl
                    rotate_left
                    try simp only [Act.put, List.setIfInBounds_toArray, List.set_cons_zero, List.set_cons_succ]
                    refine wpAnyH_take (i := 6) (oi := ⟨some 175, _, _, _, _, _⟩) (v := ?_) rfl (by kernel_rfl) (by kernel_rfl) (by kernel_rfl) (fun _ _ _ h => h) (Or.inl ⟨by kernel_rfl, ?_⟩) (by assumption) ?_
                    rotate_left
                    · intro w hSw; (try dsimp only at hSw); go_simp; try with_reducible rfl
                    rotate_left
                    try simp only [Act.put, List.setIfInBounds_toArray, List.set_cons_zero, List.set_cons_succ]
                    refine wpAnyH_take (i := 7) (oi := ⟨some 176, _, _, _, _, _⟩) (v := ?_) rfl (by kernel_rfl) (by kernel_rfl) (by kernel_rfl) (fun _ _ _ h => h) (Or.inl ⟨by kernel_rfl, ?_⟩) (by assumption) ?_
                    rotate_left
                    · intro w hSw; (try dsimp only at hSw); go_simp; try with_reducible rfl
                    rotate_left
                    try simp only [Act.put, List.setIfInBounds_toArray, List.set_cons_zero, List.set_cons_succ]
                    refine wpAnyH_take (i := 8) (oi := ⟨some 177, _, _, _, _, _⟩) (v := ?_) rfl (by kernel_rfl) (by kernel_rfl) (by kernel_rfl) (fun _ _ _ h => h) (Or.inl ⟨by kernel_rfl, ?_⟩) (by assumption) ?_
                    rotate_left
                    · intro w hSw; (try dsimp only at hSw); go_simp; try with_reducible rfl
                    rotate_left
                    try simp only [Act.put, List.setIfInBounds_toArray, List.set_cons_zero, List.set_cons_succ]
                    refine wpAnyH_take (i := 9) (oi := ⟨some 178, _, _, _, _, _⟩) (v := ?_) rfl (by kernel_rfl) (by kernel_rfl) (by kernel_rfl) (fun _ _ _ h => h) (Or.inl ⟨by kernel_rfl, ?_⟩) (by assumption) ?_
                    rotate_left
                    · intro w hSw; (try dsimp only at hSw); go_simp; try with_reducible rfl
                    rotate_left
                    try simp only [Act.put, List.setIfInBounds_toArray, List.set_cons_zero, List.set_cons_succ]
                    refine wpAnyH_take (i := 10) (oi := ⟨some 179, _, _, _, _, _⟩) (v := ?_) rfl (by kernel_rfl) (by kernel_rfl) (by kernel_rfl) (fun _ _ _ h => h) (Or.inl ⟨by kernel_rfl, ?_⟩) (by assumption) ?_
                    rotate_left
                    · intro w hSw; (try dsimp only at hSw); go_simp; try with_reducible rfl
                    rotate_left
                    try simp only [Act.put, List.setIfInBounds_toArray, List.set_cons_zero, List.set_cons_succ]
                    refine wpAnyH_take (i := 11) (oi := ⟨some 180, _, _, _, _, _⟩) (v := ?_) rfl (by kernel_rfl) (by kernel_rfl) (by kernel_rfl) (fun _ _ _ h => h) (Or.inl ⟨by kernel_rfl, ?_⟩) (by assumption) ?_
                    rotate_left
                    · intro w hSw; (try dsimp only at hSw); go_simp; try with_reducible rfl
                    rotate_left
                    try simp only [Act.put, List.setIfInBounds_toArray, List.set_cons_zero, List.set_cons_succ]
                    refine wpAnyH_ready (rs := [4]) (by kernel_rfl) (by simp) ?_
                    refine AllReadyH.cons (o := ⟨some 173, _, _, _, _, _⟩) rfl (fun K hK => ?_) AllReadyH.nil
                    go_simp
                    refine (prog_set s g V0 Md.P HX.out.1).mono ?_
                    rw [HC.out]
                    rintro e w5 ⟨rfl, P5, k5⟩
                    have M5 := Md.onP k5 P5 (fun b hb => .inl hb)
                    have X5 := Xy.drew.kept k5 hF0
                    have H5 := Xh.drew.kept k5 hF1
                    go_wp2_with fail
                    refine hK.out _ _ ⟨H5.cellAt (i := 0) rfl, H5.cellAt (i := 1) rfl, X5.cellAt (i := 4) rfl⟩ (fun hHeld => ?_)
                    clear hK K
                    try simp only [Act.put, List.setIfInBounds_toArray, List.set_cons_zero, List.set_cons_succ]
                    refine wpAnyH_ready (rs := [12]) (by kernel_rfl) (by simp) ?_
                    refine AllReadyH.cons (o := ⟨some 181, _, _, _, _, _⟩) rfl (fun K hK => ?_) AllReadyH.nil
                    go_simp
                    refine (ref_set s g V0 M5.Q HX.out.1).mono ?_
                    rw [HC.out]
                    rintro e w6 ⟨rfl, Q6, k6⟩
                    have M6 := M5.onQ k6 Q6 (fun b hb => .inl hb)
                    have X6 := X5.kept k6 hG0
                    have H6 := H5.kept k6 hG1
                    go_wp2_with fail
                    refine hK.out _ _ ⟨H6.cellAt (i := 0) rfl, H6.cellAt (i := 1) rfl, X6.cellAt (i := 4) rfl⟩ (fun hHeld => ?_)
                    clear hK K
                    try simp only [Act.put, List.setIfInBounds_toArray, List.set_cons_zero, List.set_cons_succ]
                    refine wpAnyH_take (i := 13) (oi := ⟨some 182, _, _, _, _, _⟩) (v := ?_) rfl (by kernel_rfl) (by kernel_rfl) (by kernel_rfl) (fun _ _ _ h => h) (Or.inl ⟨by kernel_rfl, ?_⟩) (by assumption) ?_
                    rotate_left
                    · intro w hSw; (try dsimp only at hSw); go_simp; try with_reducible rfl
                    rotate_left
                    try simp only [Act.put, List.setIfInBounds_toArray, List.set_cons_zero, List.set_cons_succ]
                    refine wpAnyH_take (i := 14) (oi := ⟨some 12, _, _, _, _, _⟩) (v := ?_) rfl (by kernel_rfl) (by kernel_rfl) (by kernel_rfl) (fun _ _ _ h => h) (Or.inl ⟨by kernel_rfl, ?_⟩) (by assumption) ?_
                    rotate_left
                    · intro w hSw; (try dsimp only at hSw); go_simp; try with_reducible rfl
                    rotate_left
                    try simp only [Act.put, List.setIfInBounds_toArray, List.set_cons_zero, List.set_cons_succ]
                    refine wpAnyH_done (by kernel_rfl) ?_ _

                    clear P5 k5 Md M5 Q6 k6 X5 H5 X6 H6
                    go_wp2_with fail
                    go_meet
                    exact ⟨rfl, _, _, _, _, _, M6, Lib.hid ⟨HX.out.1.setp (by omega) s g V0, HX.out.2.1.setp s g V0, by have := HX.out.2.2; omega⟩⟩
                · have hopb2 : (O0 == 2) = false := by simpa using hop2
                  clear hop hop1 hop2
                  as_aux_lemma =>
                    have Md := M.keep ((Keeps.refl (fun _ => False) _).drew)
                    obtain ⟨c1, hc1⟩ : ∃ c1, Ar.code room ps s g = c1 := ⟨_, rfl⟩
                    have HC := Lib.hid hc1
                    clear hc1 M
                    go_wp2_with fail
                    clear y0c h0 h1 y4c
                    refine wp_region_held_drew (S := (fun W => W.cell? ⟨xb + 1, 0, none⟩ = some (.int .i64 s) ∧ W.cell? ⟨xb + 1, 1, none⟩ = some (.int .i64 g) ∧ W.cell? ⟨xb, 4, none⟩ = some (.string V0))) (by kernel_rfl) ⟨Xh.drew.cellAt (i := 0) rfl, Xh.drew.cellAt (i := 1) rfl, Xy.drew.cellAt (i := 4) rfl⟩ (fun hHeld => ?_)
                    refine wpAnyH_take (i := 0) (oi := ⟨some 94, _, _, _, _, _⟩) (v := ?_) rfl (by kernel_rfl) (by kernel_rfl) (by kernel_rfl) (fun _ _ _ h => h) (Or.inl ⟨by kernel_rfl, ?_⟩) (by assumption) ?_
                    rotate_left
                    · intro w hSw; (try dsimp only at hSw); go_simp; try with_reducible rfl
                    rotate_left
                    try simp only [Act.put, List.setIfInBounds_toArray, List.set_cons_zero, List.set_cons_succ]
                    refine wpAnyH_take (i := 1) (oi := ⟨some 95, _, _, _, _, _⟩) (v := ?_) rfl (by kernel_rfl) (by kernel_rfl) (by kernel_rfl) (fun _ _ _ h => h) (Or.inl ⟨by kernel_rfl, ?_⟩) (by assumption) ?_
                    rotate_left
                    · intro w hSw; (try dsimp only at hSw); go_simp; try with_reducible rfl
                    rotate_left
                    try simp only [Act.put, List.setIfInBounds_toArray, List.set_cons_zero, List.set_cons_succ]
                    refine wpAnyH_take (i := 3) (oi := ⟨some 97, _, _, _, _, _⟩) (v := ?_) rfl (by kernel_rfl) (by kernel_rfl) (by kernel_rfl) (fun _ _ _ h => h) (Or.inl ⟨by kernel_rfl, ?_⟩) (by assumption) ?_
                    rotate_left
                    · intro w hSw; (try dsimp only at hSw); go_simp; try with_reducible rfl
                    rotate_left
                    try simp only [Act.put, List.setIfInBounds_toArray, List.set_cons_zero, List.set_cons_succ]
                    refine wpAnyH_take (i := 4) (oi := ⟨some 98, _, _, _, _, _⟩) (v := ?_) rfl (by kernel_rfl) (by kernel_rfl) (by kernel_rfl) (fun _ _ _ h => h) (Or.inl ⟨by kernel_rfl, ?_⟩) (by assumption) ?_
                    rotate_left
                    · intro w hSw; (try dsimp only at hSw); go_simp; try with_reducible rfl
                    rotate_left
                    try simp only [Act.put, List.setIfInBounds_toArray, List.set_cons_zero, List.set_cons_succ]
                    refine wpAnyH_take (i := 5) (oi := ⟨some 99, _, _, _, _, _⟩) (v := ?_) rfl (by kernel_rfl) (by kernel_rfl) (by kernel_rfl) (fun _ _ _ h => h) (Or.inl ⟨by kernel_rfl, ?_⟩) (by assumption) ?_
                    rotate_left
                    · intro w hSw; (try dsimp only at hSw); go_simp; try with_reducible rfl
                    rotate_left
                    try simp only [Act.put, List.setIfInBounds_toArray, List.set_cons_zero, List.set_cons_succ]
                    refine wpAnyH_take (i := 6) (oi := ⟨some 100, _, _, _, _, _⟩) (v := ?_) rfl (by kernel_rfl) (by kernel_rfl) (by kernel_rfl) (fun _ _ _ h => h) (Or.inl ⟨by kernel_rfl, ?_⟩) (by assumption) ?_
                    rotate_left
                    · intro w hSw; (try dsimp only at hSw); go_simp; try with_reducible rfl
                    rotate_left
                    try simp only [Act.put, List.setIfInBounds_toArray, List.set_cons_zero, List.set_cons_succ]
                    refine wpAnyH_take (i := 7) (oi := ⟨some 101, _, _, _, _, _⟩) (v := ?_) rfl (by kernel_rfl) (by kernel_rfl) (by kernel_rfl) (fun _ _ _ h => h) (Or.inl ⟨by kernel_rfl, ?_⟩) (by assumption) ?_
                    rotate_left
                    · intro w hSw; (try dsimp only at hSw); go_simp; try with_reducible rfl
                    rotate_left
                    try simp only [Act.put, List.setIfInBounds_toArray, List.set_cons_zero, List.set_cons_succ]
                    refine wpAnyH_ready (rs := [2]) (by kernel_rfl) (by simp) ?_
                    refine AllReadyH.cons (o := ⟨some 96, _, _, _, _, _⟩) rfl (fun K hK => ?_) AllReadyH.nil
                    go_simp
                    refine (prog_free s g Md.P HX.out.1).mono ?_
                    rw [HC.out]
                    rintro e w5 ⟨rfl, ⟨F5, P5, f5⟩, k5⟩
                    have M5 := Md.onP k5 P5 f5
                    have X5 := Xy.drew.kept k5 hF0
                    have H5 := Xh.drew.kept k5 hF1
                    go_wp2_with fail
                    refine hK.out _ _ ⟨H5.cellAt (i := 0) rfl, H5.cellAt (i := 1) rfl, X5.cellAt (i := 4) rfl⟩ (fun hHeld => ?_)
                    clear hK K
                    try simp only [Act.put, List.setIfInBounds_toArray, List.set_cons_zero, List.set_cons_succ]
                    refine wpAnyH_ready (rs := [8]) (by kernel_rfl) (by simp) ?_
                    refine AllReadyH.cons (o := ⟨some 102, _, _, _, _, _⟩) rfl (fun K hK => ?_) AllReadyH.nil
                    go_simp
                    refine (ref_free s g M5.Q HX.out.1).mono ?_
                    rw [HC.out]
                    rintro e w6 ⟨rfl, ⟨G6, Q6, f6⟩, k6⟩
                    have M6 := M5.onQ k6 Q6 f6
                    have X6 := X5.kept k6 hG0
                    have H6 := H5.kept k6 hG1
                    go_wp2_with fail
                    refine hK.out _ _ ⟨H6.cellAt (i := 0) rfl, H6.cellAt (i := 1) rfl, X6.cellAt (i := 4) rfl⟩ (fun hHeld => ?_)
                    clear hK K
                    try simp only [Act.put, List.setIfInBounds_toArray, List.set_cons_zero, List.set_cons_succ]
                    refine wpAnyH_take (i := 9) (oi := ⟨some 103, _, _, _, _, _⟩) (v := ?_) rfl (by kernel_rfl) (by kernel_rfl) (by kernel_rfl) (fun _ _ _ h => h) (Or.inl ⟨by kernel_rfl, ?_⟩) (by assumption) ?_
                    rotate_left
                    · intro w hSw; (try dsimp only at hSw); go_simp; try with_reducible rfl
                    rotate_left
                    try simp only [Act.put, List.setIfInBounds_toArray, List.set_cons_zero, List.set_cons_succ]
                    refine wpAnyH_take (i := 10) (oi := ⟨some 12, _, _, _, _, _⟩) (v := ?_) rfl (by kernel_rfl) (by kernel_rfl) (by kernel_rfl) (fun _ _ _ h => h) (Or.inl ⟨by kernel_rfl, ?_⟩) (by assumption) ?_
                    rotate_left
                    · intro w hSw; (try dsimp only at hSw); go_simp; try with_reducible rfl
                    rotate_left
                    try simp only [Act.put, List.setIfInBounds_toArray, List.set_cons_zero, List.set_cons_succ]
                    refine wpAnyH_done (by kernel_rfl) ?_ _

                    clear P5 f5 k5 Md M5 Q6 f6 k6 X5 H5 X6 H6
                    go_wp2_with fail
                    go_meet
                    exact ⟨rfl, _, _, _, _, _, M6, Lib.hid ⟨HX.out.1.freep (by omega) s g, HX.out.2.1.freep s g, by have := HX.out.2.2; omega⟩⟩
          case rest =>
            as_aux_lemma =>
              clear M Xh Xy y0c h0 h1 y4c hF0 hF1 hG0 hG1 HX HTL HTB
              obtain ⟨rfl, F, G, ps, fr, hs, M, HX⟩ := hcut
              have hl : ps.length ≤ 1000 := by have := HX.out.1.len; omega
              have hfl : fr.length ≤ 1000 := by have := HX.out.1.fl; have := HX.out.1.nn; omega
              have hcnt := HX.out.2.1.cnt
              rw [← handles_len] at hcnt
              have hhl := ArS.handles_le ps
              obtain ⟨hd, hhd⟩ : ∃ hd, hd = ArS.handles ps := ⟨_, rfl⟩
              have RA := fun W G (h : RefAr.Is W q G room ps fr) => RefAr.all_i h hl
              have PA := fun W A c B d (h : ArS.At W p A c B d room ps fr) => ArS.all_any p A c B d room ps fr W h hl
              have PL := fun W A c B d (h : ArS.At W p A c B d room ps fr) => ArS.len_any p A c B d room ps fr (ArS.handles ps).length W h hl hfl hcnt
              rw [← hhd] at RA PA PL hcnt hhl
              obtain ⟨n, hn⟩ : ∃ n, n = hd.length := ⟨_, rfl⟩
              rw [← hn] at RA PA PL hhl
              have HRA := Lib.hid RA
              have HPA := Lib.hid PA
              have HPL := Lib.hid PL
              have HN := Lib.hid hn
              clear RA PA PL hcnt hhd hn
              go_wp2_with fail
              refine (HRA.out _ _ M.Q).mono ?_
              rintro e w5 ⟨As, cs, Ag, cg, rfl, RS, RG, k5⟩
              have M5 := M.keep k5
              clear M k5
              go_wp2_with fail
              obtain ⟨A5, c5, B5, d5, ha5, hF5⟩ := M5.P
              refine (HPA.out _ _ _ _ _ ha5).mono ?_
              rintro e w6 ⟨Am, cm, rfl, RM, _, k6⟩
              have M6 := M5.keep k6
              have RS6 := RS.kept k6 (fun _ _ _ _ h => h)
              have RG6 := RG.kept k6 (fun _ _ _ _ h => h)
              clear M5 k6 RS RG ha5
              go_wp2_with fail
              obtain ⟨A6, c6, B6, d6, ha6, hF6⟩ := M6.P
              refine (HPL.out _ _ _ _ _ ha6).mono ?_
              rintro e w7 ⟨rfl, k7⟩
              have k7 := k7.keeps (fun _ => False)
              have M7 := M6.keep k7
              have RS7 := RS6.kept k7 (fun _ _ _ _ h => h)
              have RG7 := RG6.kept k7 (fun _ _ _ _ h => h)
              have RM7 := RM.kept k7 (fun _ _ _ _ h => h)
              clear M6 k7 RS6 RG6 RM ha6
              go_wp2_with fail
              go_loopw [25] (fun i wx => ∃ j : Nat, j ≤ n ∧ i = .int .i64 j ∧ Rows2 w p q F G room ps fr u8 hs hd n As cs Ag cg Am cm wx) (fun i _ => n - (intOf i).toNat)
              case atStart => exact ⟨0, by omega, rfl, M7, RS7, RG7, RM7⟩
              case round =>
                clear M7 RS7 RG7 RM7
                obtain ⟨j, hj, rfl, M, RS, RG, RM⟩ := hrel
                by_cases hlt2 : j < n
                · obtain ⟨x, hx⟩ : ∃ x, hd[j]? = some x := ⟨_, List.getElem?_eq_getElem (by rw [← HN.out]; exact hlt2)⟩
                  obtain ⟨b1, o1, hA1, e1⟩ := RS.at_ (by omega)
                  obtain ⟨b2, o2, hA2, e2⟩ := RG.at_ (by omega)
                  obtain ⟨b3, o3, hA3, e3⟩ := RM.at_ (by omega)
                  subst hA1 hA2 hA3
                  have d1 : wr.cell? ⟨b1, o1 + j, none⟩ = some (.int .i64 (x.1 : Int)) := e1 j _ (by simp [RefAr.slots, hx])
                  have d2 : wr.cell? ⟨b2, o2 + j, none⟩ = some (.int .i64 x.2) := e2 j _ (by simp [RefAr.gs, hx])
                  have d3 : wr.cell? ⟨b3, o3 + j * 2, none⟩ = some (.int .i64 (x.1 : Int)) := e3 _ _ (flat_at ArS.hf_len hx (j := 0) rfl)
                  have d4 : wr.cell? ⟨b3, o3 + j * 2 + 1, none⟩ = some (.int .i64 x.2) := e3 _ _ (flat_at ArS.hf_len hx (j := 1) rfl)
                  have hj0 : (0 : Int) ≤ (j : Int) := by omega
                  have hj1 : (j : Int) < (n : Int) := by omega
                  clear e1 e2 e3 hx
                  go_wp2_with fail
                  go_quiet (fail)
                  go_wp2_with fail
                  go_roundw
                  case rel => exact ⟨j + 1, by omega, by go_num, M.keep ((Keeps.refl (fun _ => False) _).drewN _), RS.kept ((Keeps.refl (fun _ => False) _).drewN _) (fun _ _ _ _ h => h), RG.kept ((Keeps.refl (fun _ => False) _).drewN _) (fun _ _ _ _ h => h), RM.kept ((Keeps.refl (fun _ => False) _).drewN _) (fun _ _ _ _ h => h)⟩
                  case measure => simp [intOf]; omega
                · go_wp2_with fail
                  go_roundw
                  case rel =>
                    exact ⟨k + 1, F, G, ps, fr, hs, by omega, by go_num, M, HX⟩
                  case measure => simp [intOf]; omega
    · go_wp2_with fail
      go_ret
      exact ⟨rfl, M.B⟩
set_option maxRecDepth 100000 in
set_option maxHeartbeats 1000000 in
theorem walk_no (room : Int) (A1 : Option Addr) (n1 c1 : Nat) (w : World) (h : room < 1 ∨ 1000 < room) :
    Calls Try.prog 8 #[.int .i64 room, .slice A1 n1 c1] w fun e w' => e = .returned (.bool true) ∧ Below w.heap.size w w' := by
  by_cases h0 : room < 1
  · go_enter Try.func8, Try.ntmps8
    go_wp2_with fail
    refine (ArS.awake_ok w).mono ?_
    rintro e wa ⟨rfl, ba⟩
    go_wp2_with fail
    refine (ArS.new_no room wa h).mono ?_
    rintro e w1 ⟨rfl, rfl⟩
    clear h
    go_wp2_with fail
    go_ret
    exact ⟨rfl, ba⟩
  · have h1 : 1000 < room := by omega
    go_enter Try.func8, Try.ntmps8
    go_wp2_with fail
    refine (ArS.awake_ok w).mono ?_
    rintro e wa ⟨rfl, ba⟩
    go_wp2_with fail
    refine (ArS.new_no room wa h).mono ?_
    rintro e w1 ⟨rfl, rfl⟩
    clear h
    go_wp2_with fail
    go_ret
    exact ⟨rfl, ba⟩
set_option maxRecDepth 100000 in
set_option maxHeartbeats 1000000 in
theorem walk_out (room : Nat) (A1 : Option Addr) (n1 c1 : Nat) (w : World) (hr1 : 1 ≤ room) (hr2 : room ≤ 1000) (hm1 : n1 ≤ 9223372036854775807) (h3 : 80 < n1) :
    Calls Try.prog 8 #[.int .i64 (room : Int), .slice A1 n1 c1] w fun e w' => e = .returned (.bool true) ∧ Below w.heap.size w w' := by
  have g1 : (1 : Int) ≤ (room : Int) := by omega
  have g2 : (room : Int) ≤ 1000 := by omega
  have g3 : (80 : Int) < (n1 : Int) := by omega
  go_enter Try.func8, Try.ntmps8
  go_wp2_with fail
  refine (ArS.awake_ok w).mono ?_
  rintro e wa ⟨rfl, ba⟩
  go_wp2_with fail
  refine (ArS.new_m room w wa ba hr1 hr2).mono ?_
  rintro e wb ⟨p, F, rfl, MP, kb⟩
  have B := MP.B
  clear MP kb
  go_wp2_with fail
  all_goals (go_ret; exact ⟨rfl, B⟩)
theorem walk (room : Int) (A1 : Option Addr) (n1 c1 : Nat) (x1 : List Act4) (w : World) (w0 : (Lit.int .i64 room).wf = true) (r1 : Row Act4.cells 5 w A1 n1 x1) :
    Calls Try.prog 8 #[.int .i64 room, .slice A1 n1 c1] w fun e w' => e = .returned (.bool true) ∧ Below w.heap.size w w' := by
  by_cases h : 1 ≤ room ∧ room ≤ 1000
  · obtain ⟨r, rfl⟩ := Int.eq_ofNat_of_zero_le (show 0 ≤ room by omega)
    by_cases h3 : n1 ≤ 80
    · exact walk_in r A1 n1 c1 x1 w r1 (by omega) (by omega) h3
    · have m1 := r1.2.1
      unfold maxLen at m1
      exact walk_out r A1 n1 c1 w (by omega) (by omega) m1 (by omega)
  · exact walk_no room A1 n1 c1 w (by omega)
theorem own : ownKnob Try.prog.godebug = none := by kernel_rfl
theorem laidOut : laidOutB Try.prog = true := by kernel_rfl
set_option maxRecDepth 100000 in
theorem lifted (os : Os) (started : os.Started) (H : Type) (enc : TypeId × Value → H) :
    ReturnsInHanded {} Try.checked os 8 .any (Rows.arenaPlaysSpec.pre6 enc Try.prog Try.f8 Rows.arenaPlaysRow.domain false) (Rows.arenaPlaysSpec.post enc Try.prog Try.f8 false true false false) := by
  refine returnsInHanded_of_change (C := Try.checked) own started (by kernel_rfl) Try.func8
    (ChangeSpec.witness6 (enc := enc) (C := Try.checked) false ⟨#[], #[.int .i64 0, .slice none 0 0], []⟩ 8 (by kernel_rfl) (by kernel_rfl) (by kernel_rfl) (by kernel_rfl)) ?_
  intro W base args ds gs before hval0 hW hcnd _
  have hval : ∀ (j : Nat) t v, Try.f8.params[j]? = some t → args[j]? = some v → Value.okWide Try.prog W .any base t v := hval0
  have hW' := hW
  obtain ⟨p, q, hA0, hV, rfl, hfz, hnd⟩ := hW
  have hA : DataW.TrodAll enc Try.prog W 0 (fun _ => true) true Try.f8.params.toList args.toList ds p := hA0
  rw [Try.params8] at hA hval
  obtain ⟨v0, vs0, d0, ds0, p0, q0, hargs, rfl, rfl, h0, r0⟩ := trodAll_cons hA
  obtain ⟨v1, vs1, d1, ds1, p1, q1, rfl, rfl, rfl, h1, r1⟩ := trodAll_cons r0
  obtain ⟨rfl, rfl, rfl⟩ := trodAll_nil r1
  obtain rfl : args = #[v0, v1] := by cases args; simp_all
  obtain ⟨rfl, rfl⟩ := trodVars_none hV
  obtain ⟨a0, rfl, rfl, rfl, w0⟩ := open_int Try.underlying3 (hval 0 3 v0 rfl rfl) h0
  obtain ⟨A1, n1, c1, rfl⟩ := okWide_slice Try.underlying51 (hval 1 51 v1 rfl rfl)
  have k1 := h1
  have lt1 : ∀ x ∈ p1, x.block < W.heap.size := by obtain ⟨m, hm⟩ := k1; exact DataW.trod_lt m _ _ _ hm
  obtain ⟨x1, w1⟩ : ∃ xs, Row Act4.cells 5 W A1 n1 xs := by
    obtain ⟨fuel, hf⟩ := h1
    exact open_row _ 5 (by omega) Try.underlying51 (by kernel_rfl) el_act4 (by simpa [Value.cells] using hf)
  clear hA0 hval0
  refine (walk a0 A1 n1 c1 x1 W w0 w1).mono fun e W' ⟨he, bel⟩ => ?_
  subst he
  exact ⟨_, rfl, _, _, _, [], _, [], hW', trodAll_mk1 (shut_bool Try.underlying4 _), (trodAll_cons_mk (shut_int Try.underlying3 w0) (trodAll_cons_mk (Below.trod laidOut (by kernel_rfl) (of_decide_eq_true (by kernel_rfl)) k1 bel lt1) trodAll_mk0)), rfl, bel.frame _, fun h => by cases h⟩
theorem over : Rows.arenaPlaysRow.holds Try.pinned (OpenSpec.ofChange Rows.arenaPlaysSpec) :=
  OpenClaim.holds_of_wide 8 Try.f8 rfl rfl rfl rfl rfl rfl rfl ⟨rfl, rfl, rfl, rfl, rfl⟩ rfl rfl rfl rfl rfl (by kernel_rfl) Try.func8 (by kernel_rfl)
    (of_decide_eq_true (by kernel_rfl)) (by unfold Func.isWrapper; first | (rw [if_pos (by decide +kernel)]; kernel_rfl) | (rw [if_neg (by decide +kernel)]; exact ⟨rfl, rfl⟩))
    (fun os started H enc _ => lifted os started H enc)
/-- The statement. -/
theorem proved : Rows.ArenaPlaysSaid := over
#print axioms proved
end ArenaPlays
end Go.Proofs.Ytpfhogbkbodfjab
