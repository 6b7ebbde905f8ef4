/- What each function of package ledger does to one Ledger; conditions: at most 100 rows. -/
import Derived.Test.YtbgiegecfapmlaaGreatDoorFlat
import Derived.Test.YtbgiegecfapmlaaGreatDoorMap
import Derived.Test.YtbgiegecfapmlaaGreatDoorLedPlain
import Derived.IntWalk
namespace Go.Proofs.YtbgiegecfapmlaaGreatDoor
open Go.RowKit
set_option linter.unusedVariables false
set_option linter.unusedSimpArgs false
namespace Led
def cf (r : LRow) : List Value := [.int .i64 r.t, .string r.n, .int .i64 r.v]
theorem cf_len (r : LRow) : (cf r).length = 3 := rfl
theorem infoR : (Tryz.prog.info? 227).map (fun i => (i.zero, i.size, i.bytes)) = some (some (.agg #[.int .i64 0, .string ⟨#[]⟩, .int .i64 0]), 3, 32) := by kernel_rfl
theorem zeroB (W : World) : (zeroValue 225).run Tryz.prog W = .ok (.agg #[.int .i64 0, .int .i64 0]) W := by kernel_rfl
theorem cells_one (xs : List LRow) : ∀ u ∈ xs.flatMap cf, u.oneCell' = true := by
  intro u hu
  obtain ⟨f, _, hf⟩ := List.mem_flatMap.1 hu
  simp [cf] at hf
  rcases hf with rfl | rfl | rfl <;> rfl
theorem flat_snoc (xs : List LRow) (x : LRow) : (xs ++ [x]).flatMap cf = xs.flatMap cf ++ cf x := by simp
/-- The Ledger at block p: its map m of the pairs l, its rows the slice A. -/
structure At (w : World) (p m : Nat) (A : Option Addr) (c : Nat) (l : List (ByteArray × Value)) (xs : List LRow) : Prop where
  B : Blk w p 223 [.slice A xs.length c, .int .i64 (earn xs), .int .i64 (loss xs), .map (some m)]
  G : w.ownsRow 0 227 3 (.slice A xs.length c) xs.length (xs.flatMap cf)
  M : MapIs Value.string w m l
  V : ∀ n, (look l n).getD (.agg #[.int .i64 0, .int .i64 0]) = .agg #[.int .i64 (earnOf xs n), .int .i64 (lossOf xs n)]
  X : Good xs
/-- The blocks that a Ledger holds. -/
def Foot (p m : Nat) (A : Option Addr) (b : Nat) : Prop := b = p ∨ b = m ∨ (Value.slice A 0 0).ownBlock = some b
theorem own_same (A : Option Addr) (n c n' c' : Nat) : (Value.slice A n c).ownBlock = (Value.slice A n' c').ownBlock := by cases A <;> rfl
section
variable {w w' : World} {p m c : Nat} {A : Option Addr} {l : List (ByteArray × Value)} {xs : List LRow} {S : Nat → Prop}
theorem At.kept (h : At w p m A c l xs) (k : Keeps S w w') (hS : ∀ b, Foot p m A b → ¬ S b) : At w' p m A c l xs :=
  ⟨h.B.kept k (hS p (.inl rfl)), own_kept h.G k (fun g _ _ hg => hS g (.inr (.inr ((own_same A _ _ _ _).trans hg)))), h.M.kept k (hS m (.inr (.inl rfl))), h.V, h.X⟩
theorem At.stay (h : At w p m A c l xs) (k : Keeps (fun _ => False) w w') : At w' p m A c l xs := h.kept k fun _ _ h => h
theorem At.pm (h : At w p m A c l xs) : p ≠ m := fun e => h.M.ne_blk h.B e.symm
theorem At.gp (h : At w p m A c l xs) (n c' : Nat) : (Value.slice A n c').ownBlock ≠ some p := by
  rw [own_same A n c' xs.length c]; exact own_type_ne h.G h.B (by decide)
theorem At.gm (h : At w p m A c l xs) (n c' : Nat) : (Value.slice A n c').ownBlock ≠ some m := by
  rw [own_same A n c' xs.length c]
  intro e
  rcases h.G.2 with ⟨h0, _⟩ | ⟨g, cap, cur, hv, _, hh, _⟩
  · rw [h0] at e; cases e
  · rw [hv] at e
    cases e
    exact h.M.ne_cells hh rfl
theorem At.lt (h : At w p m A c l xs) : ∀ b, Foot p m A b → b < w.heap.size := by
  rintro b (rfl | rfl | hb)
  · exact h.B.lt
  · exact h.M.lt
  · exact (h.G.lt b ((own_same A _ _ _ _).trans hb)).2
theorem At.has (h : At w p m A c l xs) : Has w 227 3 (.slice A xs.length c) xs.length (xs.flatMap cf) := Has.of_own h.G
theorem At.cell (h : At w p m A c l xs) {i : Nat} {r : LRow} (hr : xs[i]? = some r) :
    ∃ g off, A = some ⟨g, off, none⟩ ∧ w.cell? ⟨g, off + i * 3, none⟩ = some (.int .i64 r.t) ∧ w.cell? ⟨g, off + i * 3 + 1, none⟩ = some (.string r.n) ∧ w.cell? ⟨g, off + i * 3 + 2, none⟩ = some (.int .i64 r.v) := by
  have hi := (List.getElem?_eq_some_iff.1 hr).1
  obtain ⟨g, off, hA, hc⟩ := h.has.at_ (by omega)
  exact ⟨g, off, hA, hc _ _ (flat_at cf_len hr (j := 0) rfl), hc _ _ (flat_at cf_len hr (j := 1) rfl), hc _ _ (flat_at cf_len hr (j := 2) rfl)⟩
end
/-- A Ledger at block p, holding the blocks F. -/
def Is (w : World) (p : Nat) (F : Nat → Prop) (xs : List LRow) : Prop := ∃ m A c l, At w p m A c l xs ∧ F = Foot p m A
section
variable {w w' : World} {p : Nat} {F : Nat → Prop} {xs : List LRow} {S : Nat → Prop}
theorem Is.kept (h : Is w p F xs) (k : Keeps S w w') (hS : ∀ b, F b → ¬ S b) : Is w' p F xs := by
  obtain ⟨m, A, c, l, ha, rfl⟩ := h
  exact ⟨m, A, c, l, ha.kept k hS, rfl⟩
theorem Is.stay (h : Is w p F xs) (k : Keeps (fun _ => False) w w') : Is w' p F xs := h.kept k fun _ _ h => h
theorem Is.lt (h : Is w p F xs) : ∀ b, F b → b < w.heap.size := by
  obtain ⟨m, A, c, l, ha, rfl⟩ := h
  exact ha.lt
theorem Is.good (h : Is w p F xs) : Good xs := by
  obtain ⟨m, A, c, l, ha, rfl⟩ := h
  exact ha.X
end
set_option maxHeartbeats 400000 in
theorem new_any (w : World) :
    Calls Tryz.prog 76 #[] w fun e w' => ∃ p F, e = .returned (.pointer (some ⟨p, 0, none⟩)) ∧ (∀ b, F b → w.heap.size ≤ b) ∧ Is w' p F [] ∧ Keeps (fun _ => False) w w' := by
  have hmm := @run_makeMap Tryz.prog
  go_enter Tryz.func76, Tryz.ntmps76
  go_wp2_with fail
  go_ret
  refine ⟨w.heap.size + 1, Foot (w.heap.size + 1) w.heap.size none, rfl, ?_, ⟨w.heap.size, none, 0, [], ⟨?_, ?_, ?_, ?_, Good.nil⟩, rfl⟩, ((Keeps.refl _ _).alloc _).alloc _⟩
  · rintro b (rfl | rfl | hb)
    · omega
    · omega
    · cases hb
  · have := Blk.new (w.alloc (.map #[] 0)) 223 [.slice none 0 0, .int .i64 0, .int .i64 0, .map (some w.heap.size)]
    simp only [World.size_alloc] at this
    exact this
  · exact World.ownsRow_nil _ _ _ _
  · exact (MapIs.made Value.string w).kept ((Keeps.refl (fun _ => False) _).alloc _) (fun h => h)
  · intro n; rfl
theorem late_nil (t : Int) : late [] t = false := rfl
theorem late_snoc (xs : List LRow) (r : LRow) (t : Int) : late (xs ++ [r]) t = decide (t < r.t) := by simp [late]
set_option maxHeartbeats 1000000 in
theorem may_any (p m : Nat) (A : Option Addr) (c : Nat) (l : List (ByteArray × Value)) (xs : List LRow) (t v all : Int) (w : World) (hl : xs.length ≤ 100) (h : At w p m A c l xs) (ha : 0 ≤ all) (hb : all ≤ 4611686018427387904) :
    Calls Tryz.prog 118 #[.pointer (some ⟨p, 0, none⟩), .int .i64 t, .int .i64 v, .int .i64 all] w fun e w' => e = .returned (.int .i64 (may xs t v all)) ∧ Drawn w w' := by
  have D := Drawn.refl w
  have c0 := h.B.cellAt (i := 0) rfl
  by_cases h1 : t < 0 ∨ v < 0
  · have hr : may xs t v all = 1 := by unfold may; rw [if_pos h1]
    rw [hr]
    clear hr c0
    by_cases h2 : t < 0
    · clear h1
      go_enter Tryz.func118, Tryz.ntmps118
      go_wp2_with fail
      go_ret
      exact ⟨rfl, D⟩
    · have h3 : v < 0 := by omega
      clear h1
      go_enter Tryz.func118, Tryz.ntmps118
      go_wp2_with fail
      go_ret
      exact ⟨rfl, D⟩
  · have h2 : 0 ≤ t := by omega
    have h3 : 0 ≤ v := by omega
    have hr : may xs t v all = if late xs t = true then 10 else if 4611686018427387904 - all < v then 8 else 0 := by unfold may; rw [if_neg h1]
    rw [hr]
    clear hr h1
    rcases eq_nil_or_snoc xs with rfl | ⟨ys, r, rfl⟩
    · rw [late_nil]
      clear h
      by_cases h5 : 4611686018427387904 - all < v
      · go_enter Tryz.func118, Tryz.ntmps118
        go_wp2_with fail
        go_quiet (fail)
        go_wp2_with fail
        go_ret
        exact ⟨by simp [h5], D.drewN _⟩
      · go_enter Tryz.func118, Tryz.ntmps118
        go_wp2_with fail
        go_quiet (fail)
        go_wp2_with fail
        go_ret
        exact ⟨by simp [h5], D.drewN _⟩
    · obtain ⟨g, off, rfl, d0, _, _⟩ := h.cell (i := ys.length) (r := r) (by simp)
      obtain ⟨N, hN⟩ : ∃ N, N = (ys ++ [r]).length := ⟨_, rfl⟩
      rw [← hN] at c0 hl
      have hN1 : N = ys.length + 1 := by rw [hN]; simp
      have hw : IntKind.i64.wrap ((N : Int) - 1) = (ys.length : Int) := by rw [IntWalk.i64_in _ (by omega)]; omega
      have i0 : (0 : Int) ≤ (ys.length : Int) := by omega
      have i1 : (ys.length : Int) < (N : Int) := by omega
      have i2 : (0 : Int) < (N : Int) := by omega
      have i3 : 0 < N := by omega
      have hd : decide (0 < N) = true := by simpa using i3
      rw [late_snoc]
      clear hN h hN1
      generalize ys.length = k at *
      by_cases h4 : t < r.t
      · have hd4 : decide (t < r.t) = true := by simpa using h4
        rw [hd4]
        go_enter Tryz.func118, Tryz.ntmps118
        go_wp2_with fail
        go_quiet (fail)
        go_wp2_with fail
        go_ret
        exact ⟨rfl, D.drewN _⟩
      · have hd4 : decide (t < r.t) = false := by simpa using h4
        rw [hd4]
        by_cases h5 : 4611686018427387904 - all < v
        · go_enter Tryz.func118, Tryz.ntmps118
          go_wp2_with fail
          go_quiet (fail)
          clear hw
          go_wp2_with fail
          go_ret
          exact ⟨by simp [h5], D.drewN _⟩
        · go_enter Tryz.func118, Tryz.ntmps118
          go_wp2_with fail
          go_quiet (fail)
          clear hw
          go_wp2_with fail
          go_ret
          exact ⟨by simp [h5], D.drewN _⟩

theorem add_V {l : List (ByteArray × Value)} {xs : List LRow} (V : ∀ n, (look l n).getD (.agg #[.int .i64 0, .int .i64 0]) = .agg #[.int .i64 (earnOf xs n), .int .i64 (lossOf xs n)]) (r : LRow) :
    ∀ n, (look (upd l r.n (.agg #[.int .i64 (earnOf xs r.n + pos r.v), .int .i64 (lossOf xs r.n + neg r.v)])) n).getD (.agg #[.int .i64 0, .int .i64 0]) = .agg #[.int .i64 (earnOf (xs ++ [r]) n), .int .i64 (lossOf (xs ++ [r]) n)] := by
  intro n
  rw [look_upd]
  unfold earnOf lossOf
  rw [sumBy_snoc, sumBy_snoc]
  by_cases h : n = r.n
  · subst h; simp
  · have h' : ¬ r.n = n := fun e => h e.symm
    rw [if_neg h, if_neg h', if_neg h', Int.add_zero, Int.add_zero]
    exact V n

set_option maxRecDepth 100000 in
set_option maxHeartbeats 2000000 in
theorem earn_yes (p m : Nat) (A : Option Addr) (c : Nat) (l : List (ByteArray × Value)) (xs : List LRow) (t : Int) (n : ByteArray) (v : Int) (w : World) (hl : xs.length ≤ 99) (h : At w p m A c l xs) (hm : may xs t v (earn xs) = 0) (ht : t ≤ 9223372036854775807) (hn : n.size ≤ maxLen) :
    Calls Tryz.prog 78 #[.pointer (some ⟨p, 0, none⟩), .int .i64 t, .string n, .int .i64 v] w fun e w' => e = .returned (.int .i64 0) ∧ (∃ A' c' l', At w' p m A' c' l' (xs ++ [⟨t, n, v⟩]) ∧ ∀ b, Foot p m A' b → Foot p m A b ∨ w.heap.size ≤ b) ∧ Keeps (Foot p m A) w w' := by
  obtain ⟨i0, hi0, hz0, hz1, hz2⟩ := info_parts infoR
  have hc1 := h.B.cellAt (i := 1) rfl
  obtain ⟨ht0, hv0, hlate, hv1⟩ := may_ok hm
  have HM := Lib.hid hm
  have HL := Lib.hid hlate
  have e0 := earn_nn xs
  have e1 := h.X.e
  have l0 := loss_nn xs
  have l1 := h.X.l
  have eo0 := earnOf_nn xs n
  have eo1 := earnOf_le xs n
  have lo0 := lossOf_nn xs n
  have lo1 := lossOf_le xs n
  clear hm hlate
  go_enter Tryz.func78, Tryz.ntmps78
  go_wp2_with fail
  refine (may_any p m A c l xs t v (earn xs) _ (by omega) h e0 e1).mono ?_
  rintro e w1 ⟨rfl, D1⟩
  have K1 := D1.keeps (Foot p m A)
  have H1 := h.stay (D1.keeps _)
  rw [HM.out]
  clear D1 hc1
  have hc1 := H1.B.cellAt (i := 1) rfl
  have hf1 := H1.B.frozen
  have hpm := H1.pm
  have M2 : MapIs Value.string (w1.setCell ⟨p, 1, none⟩ (.int .i64 (earn xs + v))) m l := H1.M.kept (S := (· = p)) ((keep1 p w1).setCell _ (.inl rfl) _) (fun e => hpm e.symm)
  have B2 : Blk (w1.setCell ⟨p, 1, none⟩ (.int .i64 (earn xs + v))) p 223 [.slice A xs.length c, .int .i64 (earn xs + v), .int .i64 (loss xs), .map (some m)] := H1.B.set_ 1 _
  have c3 := B2.cellAt (i := 3) rfl
  have hlk := M2.lookup (T := 220) (key_string Tryz.underlying9) Tryz.underlying220 (zeroB _) n false
  have hV := H1.V n
  have hlk' : (Instr.lookup 220 (.map (some m)) (.string n) false).run Tryz.prog (w1.setCell ⟨p, 1, none⟩ (.int .i64 (earn xs + v))) = .ok (.agg #[.int .i64 (earnOf xs n), .int .i64 (lossOf xs n)]) (w1.setCell ⟨p, 1, none⟩ (.int .i64 (earn xs + v))) := by
    refine hlk.trans ?_
    rw [if_neg (by decide), hV]
  clear hlk hV
  go_wp2_with fail
  have K2 : Keeps (Foot p m A) w (w1.setCell ⟨p, 1, none⟩ (.int .i64 (earn xs + v))) := K1.setCell _ (.inl (.inl rfl)) _
  have G2 : (w1.setCell ⟨p, 1, none⟩ (.int .i64 (earn xs + v))).ownsRow 0 227 3 (.slice A xs.length c) xs.length (xs.flatMap cf) := own_kept H1.G (S := (· = p)) ((keep1 p w1).setCell _ (.inl rfl) _) (fun g _ _ hg e => H1.gp _ _ (hg.trans (congrArg some e)))
  have hsz : (w1.setCell ⟨p, 1, none⟩ (.int .i64 (earn xs + v))).heap.size = w1.heap.size := by simp [World.setCell]
  generalize w1.setCell ⟨p, 1, none⟩ (.int .i64 (earn xs + v)) = w2 at *
  have hpl := B2.lt
  have hml := M2.lt
  have Q3 : Blk (w2.alloc (.cells #[.int .i64 (earnOf xs n), .int .i64 (lossOf xs n)] 225)) w2.heap.size 225 [.int .i64 (earnOf xs n), .int .i64 (lossOf xs n)] := Blk.new w2 _ _
  have B3 := B2.alloc (.cells #[.int .i64 (earnOf xs n), .int .i64 (lossOf xs n)] 225)
  have M3 := M2.kept ((Keeps.refl (fun _ => False) w2).alloc (.cells #[.int .i64 (earnOf xs n), .int .i64 (lossOf xs n)] 225)) (fun h => h)
  have G3 := own_kept G2 ((Keeps.refl (fun _ => False) w2).alloc (.cells #[.int .i64 (earnOf xs n), .int .i64 (lossOf xs n)] 225)) (fun _ _ _ _ h => h)
  have K3 := K2.alloc (.cells #[.int .i64 (earnOf xs n), .int .i64 (lossOf xs n)] 225)
  clear M2 B2 c3 hlk' K2 G2 hc1 hf1
  rw [hsz] at Q3 hpl hml
  clear hsz
  generalize w1.heap.size = q at *
  generalize w2.alloc (.cells #[.int .i64 (earnOf xs n), .int .i64 (lossOf xs n)] 225) = w3 at *
  have c3 := B3.cellAt (i := 3) rfl
  have q0 := Q3.cellAt (i := 0) rfl
  have q1 := Q3.cellAt (i := 1) rfl
  have hw : IntKind.i64.wrap (earnOf xs n + v) = earnOf xs n + v := IntWalk.i64_in _ (by omega)
  go_still_tail 12, (by kernel_rfl)
  clear hw
  refine wpList_update_is (w := w3.drew) (m := m) (l := l) (by exact M3) (key_string Tryz.underlying9) Tryz.underlying220 rfl (.tmp 39) (.tmp 40) (.tmp 47) rfl n (.agg #[.int .i64 (earnOf xs n + v), .int .i64 (lossOf xs n)]) rfl rfl rfl ?_
  intro w4 M4 k4
  have hgm := fun n' c' => H1.gm n' c'
  have hgp := fun n' c' => H1.gp n' c'
  have K4 : Keeps (Foot p m A) w w4 := K3.drew.trans k4 (fun i _ hi => .inr (.inl hi))
  have B4 := B3.drew.kept k4 hpm
  have G4 := own_kept (w := w3.drew) G3 k4 (fun g _ _ hg e => hgm _ _ (hg.trans (congrArg some e)))
  clear M3 B3 G3 K3 k4 Q3 c3 q0 q1 H1 K1
  have d0 := B4.cellAt (i := 0) rfl
  go_wp2_with (at_builtin; refine wpList_append_has rfl (.tmp 52) (.tmp 57) 221 rfl i0 _ 32 Tryz.underlying221 hi0 hz0 hz1 hz2 rfl (by omega) rfl (own_kept G4 ((Keeps.refl (fun _ => False) w4).alloc _) (fun _ _ _ _ h => h)) (some ⟨w4.heap.size, 0, none⟩) 1 1 (cf ⟨t, n, v⟩) rfl (Has.box w4 227 3 1 (cf ⟨t, n, v⟩) rfl (by unfold maxLen; omega)) (by have := cells_one [⟨t, n, v⟩]; simpa using this) (by unfold maxLen; omega) (by omega) (by omega) ?_; intro v5 w5 own5 g5 at5; obtain ⟨A5, c5, hv5⟩ := own_shape own5; subst hv5; have hgp4 := hgp xs.length c; have hgm4 := hgm xs.length c; have K5 : Keeps (Foot p m A) w w5 := keeps_grown (K4.alloc _) g5 (fun g hg => .inl (.inr (.inr ((own_same A _ _ _ _).trans hg)))); have B5 := (B4.alloc _).grown g5 hgp4; have M5 := (M4.kept ((Keeps.refl (fun _ => False) w4).alloc _) (fun h => h)).kept (S := fun g => (Value.slice A xs.length c).ownBlock = some g) (keeps_grown (Keeps.refl _ _) g5 (fun g hg => .inl hg)) hgm4; have z4 := K4.size; clear g5 M4 B4 G4 d0 K4; have hf5 := B5.frozen; have d5 := B5.cellAt (i := 0) rfl)
  go_wp2_with fail
  go_ret
  have at6 : (Value.slice A5 (xs.length + 1) c5).ownBlock = (Value.slice A xs.length c).ownBlock ∨ (Value.slice A5 (xs.length + 1) c5).ownBlock = some (w4.heap.size + 1) := by
    have e : (w4.alloc (.cells #[.int .i64 t, .string n, .int .i64 v] 227)).heap.size = w4.heap.size + 1 := by simp
    rw [← e]; exact at5
  clear at5
  obtain ⟨s1, s2⟩ := (pos_of hv0)
  have hlen : (xs ++ [(⟨t, n, v⟩ : LRow)]).length = xs.length + 1 := by simp
  have hx : Good (xs ++ [⟨t, n, v⟩]) := by
    have := h.X.add t n v true ht hn
    unfold Led.add at this
    simp only [if_true] at this
    rw [if_pos HM.out] at this
    exact this
  have hg5 : (Value.slice A5 (xs.length + 1) c5).ownBlock ≠ some p := own_type_ne own5 B5 (by decide)
  refine ⟨rfl, ⟨A5, c5, _, ⟨?_, ?_, M5.kept ((keep1 p _).setCell _ (.inl rfl) _) (fun e => hpm e.symm), ?_, hx⟩, ?_⟩, K5.setCell _ (.inl (.inl rfl)) _⟩
  · rw [hlen, earn_snoc, loss_snoc, s1, s2, Int.add_zero]
    exact B5.set_ 0 _
  · rw [hlen, flat_snoc]
    exact own_kept own5 ((keep1 p _).setCell _ (.inl rfl) _) (fun g _ _ hg e => hg5 (hg.trans (congrArg some e)))
  · have := add_V h.V ⟨t, n, v⟩
    simp only [s1, s2, Int.add_zero] at this
    exact this
  · rintro b (rfl | rfl | hb)
    · exact .inl (.inl rfl)
    · exact .inl (.inr (.inl rfl))
    · rw [own_same A5 0 0 (xs.length + 1) c5] at hb
      rcases at6 with h6 | h6
      · exact .inl (.inr (.inr (by rw [own_same A 0 0 xs.length c, ← h6, hb])))
      · rw [h6] at hb
        injection hb with hb
        exact .inr (by omega)

set_option maxRecDepth 100000 in
set_option maxHeartbeats 2000000 in
theorem lose_yes (p m : Nat) (A : Option Addr) (c : Nat) (l : List (ByteArray × Value)) (xs : List LRow) (t : Int) (n : ByteArray) (v : Int) (w : World) (hl : xs.length ≤ 99) (h : At w p m A c l xs) (hm : may xs t v (loss xs) = 0) (ht : t ≤ 9223372036854775807) (hn : n.size ≤ maxLen) :
    Calls Tryz.prog 79 #[.pointer (some ⟨p, 0, none⟩), .int .i64 t, .string n, .int .i64 v] w fun e w' => e = .returned (.int .i64 0) ∧ (∃ A' c' l', At w' p m A' c' l' (xs ++ [⟨t, n, (-v)⟩]) ∧ ∀ b, Foot p m A' b → Foot p m A b ∨ w.heap.size ≤ b) ∧ Keeps (Foot p m A) w w' := by
  obtain ⟨i0, hi0, hz0, hz1, hz2⟩ := info_parts infoR
  have hc1 := h.B.cellAt (i := 2) rfl
  obtain ⟨ht0, hv0, hlate, hv1⟩ := may_ok hm
  have HM := Lib.hid hm
  have HL := Lib.hid hlate
  have e0 := earn_nn xs
  have e1 := h.X.e
  have l0 := loss_nn xs
  have l1 := h.X.l
  have eo0 := earnOf_nn xs n
  have eo1 := earnOf_le xs n
  have lo0 := lossOf_nn xs n
  have lo1 := lossOf_le xs n
  clear hm hlate
  go_enter Tryz.func79, Tryz.ntmps79
  go_wp2_with fail
  refine (may_any p m A c l xs t v (loss xs) _ (by omega) h l0 l1).mono ?_
  rintro e w1 ⟨rfl, D1⟩
  have K1 := D1.keeps (Foot p m A)
  have H1 := h.stay (D1.keeps _)
  rw [HM.out]
  clear D1 hc1
  have hc1 := H1.B.cellAt (i := 2) rfl
  have hf1 := H1.B.frozen
  have hpm := H1.pm
  have M2 : MapIs Value.string (w1.setCell ⟨p, 2, none⟩ (.int .i64 (loss xs + v))) m l := H1.M.kept (S := (· = p)) ((keep1 p w1).setCell _ (.inl rfl) _) (fun e => hpm e.symm)
  have B2 : Blk (w1.setCell ⟨p, 2, none⟩ (.int .i64 (loss xs + v))) p 223 [.slice A xs.length c, .int .i64 (earn xs), .int .i64 (loss xs + v), .map (some m)] := H1.B.set_ 2 _
  have c3 := B2.cellAt (i := 3) rfl
  have hlk := M2.lookup (T := 220) (key_string Tryz.underlying9) Tryz.underlying220 (zeroB _) n false
  have hV := H1.V n
  have hlk' : (Instr.lookup 220 (.map (some m)) (.string n) false).run Tryz.prog (w1.setCell ⟨p, 2, none⟩ (.int .i64 (loss xs + v))) = .ok (.agg #[.int .i64 (earnOf xs n), .int .i64 (lossOf xs n)]) (w1.setCell ⟨p, 2, none⟩ (.int .i64 (loss xs + v))) := by
    refine hlk.trans ?_
    rw [if_neg (by decide), hV]
  clear hlk hV
  go_wp2_with fail
  have K2 : Keeps (Foot p m A) w (w1.setCell ⟨p, 2, none⟩ (.int .i64 (loss xs + v))) := K1.setCell _ (.inl (.inl rfl)) _
  have G2 : (w1.setCell ⟨p, 2, none⟩ (.int .i64 (loss xs + v))).ownsRow 0 227 3 (.slice A xs.length c) xs.length (xs.flatMap cf) := own_kept H1.G (S := (· = p)) ((keep1 p w1).setCell _ (.inl rfl) _) (fun g _ _ hg e => H1.gp _ _ (hg.trans (congrArg some e)))
  have hsz : (w1.setCell ⟨p, 2, none⟩ (.int .i64 (loss xs + v))).heap.size = w1.heap.size := by simp [World.setCell]
  generalize w1.setCell ⟨p, 2, none⟩ (.int .i64 (loss xs + v)) = w2 at *
  have hpl := B2.lt
  have hml := M2.lt
  have Q3 : Blk (w2.alloc (.cells #[.int .i64 (earnOf xs n), .int .i64 (lossOf xs n)] 225)) w2.heap.size 225 [.int .i64 (earnOf xs n), .int .i64 (lossOf xs n)] := Blk.new w2 _ _
  have B3 := B2.alloc (.cells #[.int .i64 (earnOf xs n), .int .i64 (lossOf xs n)] 225)
  have M3 := M2.kept ((Keeps.refl (fun _ => False) w2).alloc (.cells #[.int .i64 (earnOf xs n), .int .i64 (lossOf xs n)] 225)) (fun h => h)
  have G3 := own_kept G2 ((Keeps.refl (fun _ => False) w2).alloc (.cells #[.int .i64 (earnOf xs n), .int .i64 (lossOf xs n)] 225)) (fun _ _ _ _ h => h)
  have K3 := K2.alloc (.cells #[.int .i64 (earnOf xs n), .int .i64 (lossOf xs n)] 225)
  clear M2 B2 c3 hlk' K2 G2 hc1 hf1
  rw [hsz] at Q3 hpl hml
  clear hsz
  generalize w1.heap.size = q at *
  generalize w2.alloc (.cells #[.int .i64 (earnOf xs n), .int .i64 (lossOf xs n)] 225) = w3 at *
  have c3 := B3.cellAt (i := 3) rfl
  have q0 := Q3.cellAt (i := 0) rfl
  have q1 := Q3.cellAt (i := 1) rfl
  have hw : IntKind.i64.wrap (lossOf xs n + v) = lossOf xs n + v := IntWalk.i64_in _ (by omega)
  go_still_tail 12, (by kernel_rfl)
  clear hw
  refine wpList_update_is (w := w3.drew) (m := m) (l := l) (by exact M3) (key_string Tryz.underlying9) Tryz.underlying220 rfl (.tmp 39) (.tmp 40) (.tmp 47) rfl n (.agg #[.int .i64 (earnOf xs n), .int .i64 (lossOf xs n + v)]) rfl rfl rfl ?_
  intro w4 M4 k4
  have hgm := fun n' c' => H1.gm n' c'
  have hgp := fun n' c' => H1.gp n' c'
  have K4 : Keeps (Foot p m A) w w4 := K3.drew.trans k4 (fun i _ hi => .inr (.inl hi))
  have B4 := B3.drew.kept k4 hpm
  have G4 := own_kept (w := w3.drew) G3 k4 (fun g _ _ hg e => hgm _ _ (hg.trans (congrArg some e)))
  clear M3 B3 G3 K3 k4 Q3 c3 q0 q1 H1 K1
  have d0 := B4.cellAt (i := 0) rfl
  go_wp2_with (at_builtin; refine wpList_append_has rfl (.tmp 52) (.tmp 58) 221 rfl i0 _ 32 Tryz.underlying221 hi0 hz0 hz1 hz2 rfl (by omega) rfl (own_kept G4 ((Keeps.refl (fun _ => False) w4).alloc _) (fun _ _ _ _ h => h)) (some ⟨w4.heap.size, 0, none⟩) 1 1 (cf ⟨t, n, (-v)⟩) rfl (Has.box w4 227 3 1 (cf ⟨t, n, (-v)⟩) rfl (by unfold maxLen; omega)) (by have := cells_one [⟨t, n, (-v)⟩]; simpa using this) (by unfold maxLen; omega) (by omega) (by omega) ?_; intro v5 w5 own5 g5 at5; obtain ⟨A5, c5, hv5⟩ := own_shape own5; subst hv5; have hgp4 := hgp xs.length c; have hgm4 := hgm xs.length c; have K5 : Keeps (Foot p m A) w w5 := keeps_grown (K4.alloc _) g5 (fun g hg => .inl (.inr (.inr ((own_same A _ _ _ _).trans hg)))); have B5 := (B4.alloc _).grown g5 hgp4; have M5 := (M4.kept ((Keeps.refl (fun _ => False) w4).alloc _) (fun h => h)).kept (S := fun g => (Value.slice A xs.length c).ownBlock = some g) (keeps_grown (Keeps.refl _ _) g5 (fun g hg => .inl hg)) hgm4; have z4 := K4.size; clear g5 M4 B4 G4 d0 K4; have hf5 := B5.frozen; have d5 := B5.cellAt (i := 0) rfl)
  go_wp2_with fail
  go_ret
  have at6 : (Value.slice A5 (xs.length + 1) c5).ownBlock = (Value.slice A xs.length c).ownBlock ∨ (Value.slice A5 (xs.length + 1) c5).ownBlock = some (w4.heap.size + 1) := by
    have e : (w4.alloc (.cells #[.int .i64 t, .string n, .int .i64 (-v)] 227)).heap.size = w4.heap.size + 1 := by simp
    rw [← e]; exact at5
  clear at5
  obtain ⟨s1, s2⟩ := (neg_of hv0)
  have hlen : (xs ++ [(⟨t, n, (-v)⟩ : LRow)]).length = xs.length + 1 := by simp
  have hx : Good (xs ++ [⟨t, n, (-v)⟩]) := by
    have := h.X.add t n v false ht hn
    unfold Led.add at this
    simp only [Bool.false_eq_true, if_false] at this
    rw [if_pos HM.out] at this
    exact this
  have hg5 : (Value.slice A5 (xs.length + 1) c5).ownBlock ≠ some p := own_type_ne own5 B5 (by decide)
  refine ⟨rfl, ⟨A5, c5, _, ⟨?_, ?_, M5.kept ((keep1 p _).setCell _ (.inl rfl) _) (fun e => hpm e.symm), ?_, hx⟩, ?_⟩, K5.setCell _ (.inl (.inl rfl)) _⟩
  · rw [hlen, earn_snoc, loss_snoc, s1, s2, Int.add_zero]
    exact B5.set_ 0 _
  · rw [hlen, flat_snoc]
    exact own_kept own5 ((keep1 p _).setCell _ (.inl rfl) _) (fun g _ _ hg e => hg5 (hg.trans (congrArg some e)))
  · have := add_V h.V ⟨t, n, (-v)⟩
    simp only [s1, s2, Int.add_zero] at this
    exact this
  · rintro b (rfl | rfl | hb)
    · exact .inl (.inl rfl)
    · exact .inl (.inr (.inl rfl))
    · rw [own_same A5 0 0 (xs.length + 1) c5] at hb
      rcases at6 with h6 | h6
      · exact .inl (.inr (.inr (by rw [own_same A 0 0 xs.length c, ← h6, hb])))
      · rw [h6] at hb
        injection hb with hb
        exact .inr (by omega)
end Led
end Go.Proofs.YtbgiegecfapmlaaGreatDoor
