/- The law LedgerApart returns true at every input and leaves its arguments alone. Conditions: none. -/
import Derived.Test.YtpfhogbkbodfjaaLedger2
import Derived.Test.YtpfhogbkbodfjaaAct14
import Derived.Deep.RegionHeld3
namespace Go.Proofs.Ytpfhogbkbodfjaa
open Go.RowKit Go.ChangeShapes Go.WideShapes Go.ChangeAt Go.Deep
set_option linter.unusedVariables false
set_option linter.unusedSimpArgs false
/-- A slice's cells, one of them written. -/
theorem Has.put {α : Type} {cf : α → List Value} {sz : Nat} (hcf : ∀ x, (cf x).length = sz) (hsz : 0 < sz) {w : World} {e : TypeId} {n g off c : Nat} {xs : List α} (h : Has w e sz (.slice (some ⟨g, off, none⟩) n c) n (xs.flatMap cf))
    {i j : Nat} {x x' : α} {u : Value} (hx : xs[i]? = some x) (hj : j < sz) (hset : cf x' = (cf x).set j u) :
    Has (w.setCell ⟨g, off + (i * sz + j), none⟩ u) e sz (.slice (some ⟨g, off, none⟩) n c) n ((xs.set i x').flatMap cf) := by
  have key : (xs.set i x').flatMap cf = (xs.flatMap cf).set (i * sz + j) u := by
    apply List.ext_getElem?
    intro m
    have hi : i < xs.length := (List.getElem?_eq_some_iff.1 hx).1
    rw [flat_set hcf hsz]
    by_cases hm : m < (xs.flatMap cf).length
    · rw [setAll_get _ _ _ m hm, hcf x']
      by_cases h1 : i * sz ≤ m ∧ m < i * sz + sz
      · rw [if_pos h1, hset]
        have hm2 : m = i * sz + (m - i * sz) := by omega
        have hfl := flat_get hcf xs i (m - i * sz) (by omega)
        rw [hx, ← hm2] at hfl
        by_cases hmj : m = i * sz + j
        · subst hmj
          rw [Nat.add_sub_cancel_left, List.getElem?_set_self (by rw [hcf]; exact hj), List.getElem?_set_self hm]
        · rw [List.getElem?_set_ne (by omega), List.getElem?_set_ne (fun e => hmj e.symm), hfl]
          rfl
      · rw [if_neg h1, List.getElem?_set_ne (by omega)]
    · rw [List.getElem?_eq_none (by rw [setAll_length]; omega), List.getElem?_eq_none (by rw [List.length_set]; omega)]
  rw [key]
  have hs : ∀ cs : List Value, Has w e sz (.slice (some ⟨g, off, none⟩) n c) n cs → Has (w.setCell ⟨g, off + (i * sz + j), none⟩ u) e sz (.slice (some ⟨g, off, none⟩) n c) n (cs.set (i * sz + j) u) := by
    intro cs h
    refine ⟨by rw [List.length_set]; exact h.1, ?_⟩
    rcases h.2 with ⟨h0, _⟩ | ⟨g', off', cap, cur, hv, hnc, hcm, hg, hc⟩
    · cases h0
    · cases hv
      refine .inr ⟨g, off, c, cur.setIfInBounds (off + (i * sz + j)) u, rfl, hnc, hcm, ?_, ?_⟩
      · simp [World.setCell, Array.getElem?_modify, hg]
      · intro k v hk
        by_cases hjk : k = i * sz + j
        · subst hjk
          have hlt : i * sz + j < cs.length := by have := (List.getElem?_eq_some_iff.1 hk).1; simpa using this
          rw [List.getElem?_set_self hlt] at hk
          have := hc _ _ (List.getElem?_eq_getElem hlt)
          have hlt2 := (Array.getElem?_eq_some_iff.1 this).1
          rw [Array.getElem?_setIfInBounds_self_of_lt hlt2]; exact hk
        · rw [List.getElem?_set_ne (fun e => hjk e.symm)] at hk
          rw [Array.getElem?_setIfInBounds_ne (by omega)]
          exact hc k v hk
  exact hs _ h
theorem Has.icy {w : World} {e : TypeId} {size n g off c : Nat} {cs : List Value} (h : Has w e size (.slice (some ⟨g, off, none⟩) n c) n cs) (i : Nat) : w.frozen? ⟨g, i, none⟩ = false := by
  rcases h.2 with ⟨h0, _⟩ | ⟨g', off', cap, cur, hv, hnc, hcm, hg, hc⟩
  · cases h0
  · cases hv
    simp [World.frozen?, hg]
/-- What came in weighs no more than the reach: so does each string in it. -/
theorem weightsAll_mem {H : Type} {P : Program} {e : TypeId} : ∀ {ds : List (DataW H)} {d : DataW H}, d ∈ ds → ∀ n ∈ d.weights P e, n ∈ DataW.weightsAll P e ds
  | d0 :: ds, d, hd, n, hn => by
    simp only [DataW.weightsAll, List.mem_append]
    rcases List.mem_cons.1 hd with h | h
    · subst h; exact .inl hn
    · exact .inr (weightsAll_mem h n hn)
section
variable {H : Type} {enc : TypeId × Value → H} {P : Program} {w : World} {base : Nat} {spare : Nat → Bool} {held : Bool} {α : Type}
theorem open_row_sized (cf : α → List Value) (size : Nat) (hsz : 0 < size) {t e : TypeId} {fuel : Nat} {A : Option Addr} {n c : Nat} {x : DataW H × List MemPlace} (ht : P.underlying t = some (.slice e)) (hC : P.cellsOf e = size)
    (hel : ∀ m cs' y, DataW.trod enc P w base spare held m e cs' = some y → (∀ k ∈ y.1.weights P e, k ≤ reachBytes) → ∃ x : α, cs' = cf x) (h : DataW.trod enc P w base spare held fuel t [.slice A n c] = some x)
    (hw : ∀ k ∈ x.1.weights P t, k ≤ reachBytes) : ∃ xs : List α, Row cf size w A n xs := by
  rcases open_slice ht h with ⟨hcs, _⟩ | ⟨a, len, cap, m, k, D, Pl, hcs, hb, hl, hm, hmm, hx, hi⟩
  · simp at hcs
    obtain ⟨rfl, rfl, rfl⟩ := hcs
    exact ⟨[], rfl, by omega, fun h => absurd h (by omega)⟩
  · simp at hcs
    obtain ⟨rfl, rfl, rfl⟩ := hcs
    have hnm : n ≤ m := by rw [hmm]; split <;> omega
    rw [hC] at hi
    obtain ⟨b, off, sp⟩ := a
    obtain ⟨xs, hxl, hxs⟩ := list_of (p := fun i x => w.cells? base ((⟨b, off, sp⟩ : Addr).add (i * size)) size = some (cf x)) n (fun i hin => by
      obtain ⟨cs', h1, h2⟩ := hi i (by omega)
      obtain ⟨y, rfl⟩ := hel _ _ _ h2 (fun k hk => hw k (by
        rw [hx]
        simp only [DataW.weights, ht, List.mem_cons, List.mem_append]
        exact .inr (.inl (weightsAll_mem (List.mem_map.2 ⟨i, List.mem_range.2 hin, rfl⟩) k hk))))
      exact ⟨y, h1⟩)
    refine ⟨xs, hxl, by omega, fun hn => ?_⟩
    have hsp : sp = none ∧ b < w.heap.size := by
      have h0 : xs[0]? = some (xs[0]'(by omega)) := List.getElem?_eq_getElem (by omega)
      obtain ⟨_, hlen, hat⟩ := World.cells?_some (hxs 0 _ h0)
      have h1 := hat 0 hsz
      have e : ((⟨b, off, sp⟩ : Addr).add (0 * size)).add 0 = ⟨b, off, sp⟩ := by simp [Addr.add]
      rw [e] at h1
      have h2 : (cf (xs[0]'(by omega)))[0]? = some ((cf (xs[0]'(by omega)))[0]'(by omega)) := List.getElem?_eq_getElem (by omega)
      rw [h2] at h1
      refine ⟨?_, World.block_lt_of_cell? w _ h1⟩
      cases sp with
      | none => rfl
      | some _ =>
        unfold World.cell? at h1
        split at h1 <;> simp at h1
    obtain ⟨rfl, hbl⟩ := hsp
    refine ⟨b, off, rfl, hbl, fun i x hx j v hv => ?_⟩
    obtain ⟨_, hlen, hat⟩ := World.cells?_some (hxs i x hx)
    have hj : j < size := by have := (List.getElem?_eq_some_iff.1 hv).1; omega
    have := hat j hj
    rw [add_add_plain] at this
    rw [this, hv]
theorem el_act14s : ∀ m cs' (y : DataW H × List MemPlace), DataW.trod enc Try.prog w base spare held m 44 cs' = some y → (∀ k ∈ y.1.weights Try.prog 44, k ≤ reachBytes) → ∃ x : {x : Act14 // x.n.size ≤ reachBytes}, cs' = x.1.cells := fun m cs' y h hwt => by
  obtain ⟨x, hx⟩ := el_act14 m cs' y h
  refine ⟨⟨x, hwt _ ?_⟩, hx⟩
  obtain ⟨ys, n, _, hy, hlen, hyl, hf⟩ := DataW.trod_struct Try.underlying44 h
  have hc2 : Try.prog.cellsOf 9 = 1 := by kernel_rfl
  obtain ⟨y2, h2⟩ : ∃ y2, ys[2]? = some y2 := ⟨_, List.getElem?_eq_getElem (by rw [hyl]; decide)⟩
  subst hx
  have g2 : DataW.trod enc Try.prog w base spare held n 9 ((x.cells.drop 2).take (Try.prog.cellsOf 9)) = some y2 := (hf 2 _ rfl).trans h2
  rw [hc2] at g2
  obtain ⟨c, e2, e3, q2⟩ := DataW.trod_string Try.underlying9 g2
  simp [Act14.cells] at e2
  subst e2
  rw [hy]
  simp only [DataW.weights, Try.underlying44]
  refine DataW.weights_mem_each (j := 2) (t := 9) (d := y2.1) (by rfl) (by rw [List.getElem?_map, h2]; rfl) _ ?_
  rw [e3]
  simp only [DataW.weights, List.mem_singleton]
  exact Array.length_toList.symm
end
namespace LedgerApart
open Led
/-- What the law writes. -/
def zed (n : ByteArray) : ByteArray := ⟨#[122]⟩ ++ n
theorem zed_size (n : ByteArray) : (zed n).size = n.size + 1 := by unfold zed; rw [ByteArray.size_append]; exact Nat.add_comm _ _
theorem zed_run (n : ByteArray) (h : n.size ≤ reachBytes) (W : World) : (Op.stringOp .add ⟨#[122]⟩ n).run Try.prog W = .ok (.string (zed n)) W := run_string_add_sum W _ _ (by
  have : reachBytes < 2 ^ 47 := reachBytes_lt
  have : (⟨#[122]⟩ : ByteArray).size = 1 := rfl
  omega)
def bump (r : LRow) : LRow := ⟨r.t, zed r.n, r.v + 1⟩
def part (xs : List LRow) (k : Nat) : List LRow := (xs.take k).map bump ++ xs.drop k
theorem part_len (xs : List LRow) (k : Nat) : (part xs k).length = xs.length := by simp [part]; omega
theorem part_at {xs : List LRow} {k : Nat} {r : LRow} (h : xs[k]? = some r) : (part xs k)[k]? = some r := by
  have hk := (List.getElem?_eq_some_iff.1 h).1
  unfold part
  rw [List.getElem?_append_right (by simp; omega)]
  simp
  rw [show min k xs.length = k by omega, Nat.sub_self, Nat.add_zero]
  exact h
theorem part_next {xs : List LRow} {k : Nat} {r : LRow} (h : xs[k]? = some r) : (part xs k).set k (bump r) = part xs (k + 1) := by
  have hk := (List.getElem?_eq_some_iff.1 h).1
  unfold part
  rw [List.set_append_right _ _ (by simp; omega)]
  have hl : ((xs.take k).map bump).length = k := by simp; omega
  rw [hl, Nat.sub_self]
  obtain ⟨hk2, hr⟩ := List.getElem?_eq_some_iff.1 h
  rw [List.drop_eq_getElem_cons hk, List.set_cons_zero, take_next h, List.map_append, List.append_assoc, ← hr]
  rfl
theorem part_all {xs : List LRow} {k : Nat} (h : xs.length ≤ k) : part xs k = xs.map bump := by
  unfold part
  rw [List.take_of_length_le h, List.drop_eq_nil_of_le h, List.append_nil]
theorem val_bd {xs : List LRow} (h : Led.Good xs) {j : Nat} {r : LRow} (hr : xs[j]? = some r) : -4611686018427387904 ≤ r.v ∧ r.v ≤ 4611686018427387904 := by
  have h1 := sumBy_take xs (j + 1) (f := fun r => pos r.v) (fun _ => pos_nn _)
  have h2 : sumBy (fun r => pos r.v) (xs.take (j + 1)) = sumBy (fun r => pos r.v) (xs.take j) + pos r.v := sumBy_next hr
  have h3 := sumBy_nn (f := fun r => pos r.v) (xs.take j) (fun _ => pos_nn _)
  have h4 := h.e
  have g1 := sumBy_take xs (j + 1) (f := fun r => neg r.v) (fun _ => neg_nn _)
  have g2 : sumBy (fun r => neg r.v) (xs.take (j + 1)) = sumBy (fun r => neg r.v) (xs.take j) + neg r.v := sumBy_next hr
  have g3 := sumBy_nn (f := fun r => neg r.v) (xs.take j) (fun _ => neg_nn _)
  have g4 := h.l
  have q1 := pos_neg r.v
  have q2 := pos_nn r.v
  have q3 := neg_nn r.v
  unfold earn at h4
  unfold loss at g4
  omega
structure Mem (w : World) (p : Nat) (F : Nat → Prop) (xs : List LRow) (wr : World) : Prop where
  P : Led.Is wr p F xs
  bF : ∀ b, F b → w.heap.size ≤ b
  B : Below w.heap.size w wr
  z : w.heap.size ≤ wr.heap.size
section
variable {w : World} {p : Nat} {F : Nat → Prop} {xs : List LRow} {w1 w2 : World}
theorem Mem.keep (h : Mem w p F xs w1) (k : Keeps (fun _ => False) w1 w2) : Mem w p F xs w2 := ⟨h.P.stay k, h.bF, below_keeps h.B k h.z (fun _ h => h.elim), Nat.le_trans h.z k.size⟩
theorem Mem.onP (h : Mem w p F xs w1) {F' : Nat → Prop} {xs' : List LRow} (k : Keeps F w1 w2) (hI : Led.Is w2 p F' xs') (hF : ∀ b, F' b → F b ∨ w1.heap.size ≤ b) : Mem w p F' xs' w2 :=
  ⟨hI, fun b hb => (hF b hb).elim (h.bF b) (fun h' => Nat.le_trans h.z h'), below_keeps h.B k h.z h.bF, Nat.le_trans h.z k.size⟩
theorem Mem.other (h : Mem w p F xs w1) {g : Nat} (k : Keeps (· = g) w1 w2) (hg : ¬ F g) (hb : w.heap.size ≤ g) : Mem w p F xs w2 :=
  ⟨h.P.kept k (fun b hb e => hg (e ▸ hb)), h.bF, below_keeps h.B k h.z (fun i hi => by omega), Nat.le_trans h.z k.size⟩
end
/-- What is true of the rows. -/
structure Pur (k : Nat) (xs : List LRow) : Prop where
  len : xs.length ≤ k
  los : loss xs = 0
  nam : ∀ r ∈ xs, r.n.size ≤ reachBytes
theorem Pur.step {k : Nat} {xs : List LRow} (h : Pur k xs) (t : Int) (n : ByteArray) (v : Int) (hn : n.size ≤ reachBytes) : Pur (k + 1) (add xs t n v true).2 := by
  unfold add
  simp only [if_true]
  by_cases hm : may xs t v (earn xs) = 0
  · rw [if_pos hm]
    obtain ⟨h1, h2, _, _⟩ := may_ok hm
    refine ⟨by have := h.len; simp; omega, ?_, ?_⟩
    · show loss (xs ++ [_]) = 0
      rw [loss_snoc, h.los, (pos_of h2).2]; rfl
    · intro r hr
      rcases List.mem_append.1 hr with hr | hr
      · exact h.nam r hr
      · simp at hr; subst hr; exact hn
  · rw [if_neg hm]
    exact ⟨Nat.le_succ_of_le h.len, h.los, h.nam⟩
set_option maxRecDepth 100000 in
set_option maxHeartbeats 4000000 in
theorem walk_in (A0 : Option Addr) (n0 c0 : Nat) (x0 : List {x : Act14 // x.n.size ≤ reachBytes}) (w : World) (r0 : Row (fun x : {x : Act14 // x.n.size ≤ reachBytes} => x.1.cells) 4 w A0 n0 x0) (h0 : 1 ≤ n0) (h1 : n0 ≤ 30) :
    Calls Try.prog 13 #[.slice A0 n0 c0] w fun e w' => e = .returned (.bool true) ∧ Below w.heap.size w w' := by
  have h0i : (1 : Int) ≤ (n0 : Int) := by omega
  go_enter Try.func13, Try.ntmps13
  go_wp2_with fail
  refine (awake_ok w).mono ?_
  rintro e wa ⟨rfl, ba⟩
  go_wp2_with fail
  refine (new_any wa).mono ?_
  rintro e wb ⟨p, F, rfl, bF, P1, kb⟩
  have M1 : Mem w p F [] wb := ⟨P1, fun b hb => Nat.le_trans ba.size (bF b hb), below_keeps ba kb ba.size (fun _ h => h.elim), Nat.le_trans ba.size kb.size⟩
  clear ba kb P1 bF
  go_wp2_with fail
  go_loopw [4] (fun i wr => ∃ (k : Nat) (xs : List LRow) (F : Nat → Prop), k ≤ n0 ∧ i = .int .i64 k ∧ Mem w p F xs wr ∧ Hid (Pur k xs)) (fun i _ => n0 - (intOf i).toNat)
  case atStart => exact ⟨0, _, _, by omega, rfl, M1, Lib.hid ⟨Nat.le_refl _, rfl, (fun _ h => nomatch h)⟩⟩
  case round =>
    clear M1
    obtain ⟨k, xs, F, hk, rfl, M, HP⟩ := hrel
    by_cases hlt : k < n0
    · obtain ⟨bb, off, y, rfl, hy, hbl, _⟩ := r0.at_ M.B hlt
      have C4 : ∀ W, Below w.heap.size w W → W.cell? ⟨bb, off + k * 4 + 1, none⟩ = some (.int .i64 y.1.t) ∧ W.cell? ⟨bb, off + k * 4 + 2, none⟩ = some (.string y.1.n) ∧ W.cell? ⟨bb, off + k * 4 + 3, none⟩ = some (.int .i64 y.1.v) := by
        intro W hW
        obtain ⟨bb', off', y', he, hy', _, hc⟩ := r0.at_ hW hlt
        cases he
        rw [hy] at hy'
        cases hy'
        exact ⟨hc 1 _ rfl, hc 2 _ rfl, hc 3 _ rfl⟩
      obtain ⟨⟨O0, T0, N0, V0, hO, hT, hN, hV⟩, hNs⟩ := y
      dsimp only at C4 hNs
      have HC4 := Lib.hid C4
      clear C4 hy r0
      have hk0 : (0 : Int) ≤ (k : Int) := by omega
      have hk1 : (k : Int) < (n0 : Int) := by omega
      have hxl : xs.length ≤ 99 := by have := HP.out.len; omega
      have Md := M.keep ((Keeps.refl (fun _ => False) wr).drew)
      have HP2 := Lib.hid (HP.out.step T0 N0 V0 hNs)
      go_wp2_with fail
      refine wp_region_held_drew (S := (fun W => W.cell? ⟨bb, off + k * 4 + 1, none⟩ = some (.int .i64 T0) ∧ W.cell? ⟨bb, off + k * 4 + 2, none⟩ = some (.string N0) ∧ W.cell? ⟨bb, off + k * 4 + 3, none⟩ = some (.int .i64 V0))) (by kernel_rfl) (HC4.out _ Md.B) (fun hHeld => ?_)
      refine wpAnyH_take (i := 0) (oi := ⟨some 27, _, _, _, _, _⟩) (v := ?_) rfl (by kernel_rfl) (by kernel_rfl) (by kernel_rfl) (fun _ _ _ h => h) (Or.inl ⟨by kernel_rfl, ?_⟩) (by assumption) ?_
      rotate_left
      · intro w hSw; (try dsimp only at hSw); go_simp; try with_reducible rfl
      rotate_left
      try simp only [Act.put, List.setIfInBounds_toArray, List.set_cons_zero, List.set_cons_succ]
      refine wpAnyH_take (i := 1) (oi := ⟨some 28, _, _, _, _, _⟩) (v := ?_) rfl (by kernel_rfl) (by kernel_rfl) (by kernel_rfl) (fun _ _ _ h => h) (Or.inl ⟨by kernel_rfl, ?_⟩) (by assumption) ?_
      rotate_left
      · intro w hSw; (try dsimp only at hSw); go_simp; try with_reducible rfl
      rotate_left
      try simp only [Act.put, List.setIfInBounds_toArray, List.set_cons_zero, List.set_cons_succ]
      refine wpAnyH_take (i := 2) (oi := ⟨some 29, _, _, _, _, _⟩) (v := ?_) rfl (by kernel_rfl) (by kernel_rfl) (by kernel_rfl) (fun _ _ _ h => h) (Or.inl ⟨by kernel_rfl, ?_⟩) (by assumption) ?_
      rotate_left
      · intro w hSw; (try dsimp only at hSw); go_simp; try with_reducible rfl
      rotate_left
      try simp only [Act.put, List.setIfInBounds_toArray, List.set_cons_zero, List.set_cons_succ]
      refine wpAnyH_take (i := 3) (oi := ⟨some 30, _, _, _, _, _⟩) (v := ?_) rfl (by kernel_rfl) (by kernel_rfl) (by kernel_rfl) (fun _ _ _ h => h) (Or.inl ⟨by kernel_rfl, ?_⟩) (by assumption) ?_
      rotate_left
      · intro w hSw; (try dsimp only at hSw); go_simp; try with_reducible rfl
      rotate_left
      try simp only [Act.put, List.setIfInBounds_toArray, List.set_cons_zero, List.set_cons_succ]
      refine wpAnyH_take (i := 4) (oi := ⟨some 31, _, _, _, _, _⟩) (v := ?_) rfl (by kernel_rfl) (by kernel_rfl) (by kernel_rfl) (fun _ _ _ h => h) (Or.inl ⟨by kernel_rfl, ?_⟩) (by assumption) ?_
      rotate_left
      · intro w hSw; (try dsimp only at hSw); go_simp; try with_reducible rfl
      rotate_left
      try simp only [Act.put, List.setIfInBounds_toArray, List.set_cons_zero, List.set_cons_succ]
      refine wpAnyH_take (i := 5) (oi := ⟨some 32, _, _, _, _, _⟩) (v := ?_) rfl (by kernel_rfl) (by kernel_rfl) (by kernel_rfl) (fun _ _ _ h => h) (Or.inl ⟨by kernel_rfl, ?_⟩) (by assumption) ?_
      rotate_left
      · intro w hSw; (try dsimp only at hSw); go_simp; try with_reducible rfl
      rotate_left
      try simp only [Act.put, List.setIfInBounds_toArray, List.set_cons_zero, List.set_cons_succ]
      refine wpAnyH_take (i := 6) (oi := ⟨some 33, _, _, _, _, _⟩) (v := ?_) rfl (by kernel_rfl) (by kernel_rfl) (by kernel_rfl) (fun _ _ _ h => h) (Or.inl ⟨by kernel_rfl, ?_⟩) (by assumption) ?_
      rotate_left
      · intro w hSw; (try dsimp only at hSw); go_simp; try with_reducible rfl
      rotate_left
      try simp only [Act.put, List.setIfInBounds_toArray, List.set_cons_zero, List.set_cons_succ]
      refine wpAnyH_take (i := 7) (oi := ⟨some 34, _, _, _, _, _⟩) (v := ?_) rfl (by kernel_rfl) (by kernel_rfl) (by kernel_rfl) (fun _ _ _ h => h) (Or.inl ⟨by kernel_rfl, ?_⟩) (by assumption) ?_
      rotate_left
      · intro w hSw; (try dsimp only at hSw); go_simp; try with_reducible rfl
      rotate_left
      try simp only [Act.put, List.setIfInBounds_toArray, List.set_cons_zero, List.set_cons_succ]
      refine wpAnyH_take (i := 8) (oi := ⟨some 35, _, _, _, _, _⟩) (v := ?_) rfl (by kernel_rfl) (by kernel_rfl) (by kernel_rfl) (fun _ _ _ h => h) (Or.inl ⟨by kernel_rfl, ?_⟩) (by assumption) ?_
      rotate_left
      · intro w hSw; (try dsimp only at hSw); go_simp; try with_reducible rfl
      rotate_left
      try simp only [Act.put, List.setIfInBounds_toArray, List.set_cons_zero, List.set_cons_succ]
      refine wpAnyH_take (i := 9) (oi := ⟨some 36, _, _, _, _, _⟩) (v := ?_) rfl (by kernel_rfl) (by kernel_rfl) (by kernel_rfl) (fun _ _ _ h => h) (Or.inl ⟨by kernel_rfl, ?_⟩) (by assumption) ?_
      rotate_left
      · intro w hSw; (try dsimp only at hSw); go_simp; try with_reducible rfl
      rotate_left
      try simp only [Act.put, List.setIfInBounds_toArray, List.set_cons_zero, List.set_cons_succ]
      refine wpAnyH_take (i := 10) (oi := ⟨some 37, _, _, _, _, _⟩) (v := ?_) rfl (by kernel_rfl) (by kernel_rfl) (by kernel_rfl) (fun _ _ _ h => h) (Or.inl ⟨by kernel_rfl, ?_⟩) (by assumption) ?_
      rotate_left
      · intro w hSw; (try dsimp only at hSw); go_simp; try with_reducible rfl
      rotate_left
      try simp only [Act.put, List.setIfInBounds_toArray, List.set_cons_zero, List.set_cons_succ]
      refine wpAnyH_take (i := 11) (oi := ⟨some 38, _, _, _, _, _⟩) (v := ?_) rfl (by kernel_rfl) (by kernel_rfl) (by kernel_rfl) (fun _ _ _ h => h) (Or.inl ⟨by kernel_rfl, ?_⟩) (by assumption) ?_
      rotate_left
      · intro w hSw; (try dsimp only at hSw); go_simp; try with_reducible rfl
      rotate_left
      try simp only [Act.put, List.setIfInBounds_toArray, List.set_cons_zero, List.set_cons_succ]
      refine wpAnyH_take (i := 12) (oi := ⟨some 39, _, _, _, _, _⟩) (v := ?_) rfl (by kernel_rfl) (by kernel_rfl) (by kernel_rfl) (fun _ _ _ h => h) (Or.inl ⟨by kernel_rfl, ?_⟩) (by assumption) ?_
      rotate_left
      · intro w hSw; (try dsimp only at hSw); go_simp; try with_reducible rfl
      rotate_left
      try simp only [Act.put, List.setIfInBounds_toArray, List.set_cons_zero, List.set_cons_succ]
      refine wpAnyH_take (i := 13) (oi := ⟨some 40, _, _, _, _, _⟩) (v := ?_) rfl (by kernel_rfl) (by kernel_rfl) (by kernel_rfl) (fun _ _ _ h => h) (Or.inl ⟨by kernel_rfl, ?_⟩) (by assumption) ?_
      rotate_left
      · intro w hSw; (try dsimp only at hSw); go_simp; try with_reducible rfl
      rotate_left
      try simp only [Act.put, List.setIfInBounds_toArray, List.set_cons_zero, List.set_cons_succ]
      refine wpAnyH_take (i := 14) (oi := ⟨some 41, _, _, _, _, _⟩) (v := ?_) rfl (by kernel_rfl) (by kernel_rfl) (by kernel_rfl) (fun _ _ _ h => h) (Or.inl ⟨by kernel_rfl, ?_⟩) (by assumption) ?_
      rotate_left
      · intro w hSw; (try dsimp only at hSw); go_simp; try with_reducible rfl
      rotate_left
      try simp only [Act.put, List.setIfInBounds_toArray, List.set_cons_zero, List.set_cons_succ]
      refine wpAnyH_take (i := 15) (oi := ⟨some 42, _, _, _, _, _⟩) (v := ?_) rfl (by kernel_rfl) (by kernel_rfl) (by kernel_rfl) (fun _ _ _ h => h) (Or.inl ⟨by kernel_rfl, ?_⟩) (by assumption) ?_
      rotate_left
      · intro w hSw; (try dsimp only at hSw); go_simp; try with_reducible rfl
      rotate_left
      try simp only [Act.put, List.setIfInBounds_toArray, List.set_cons_zero, List.set_cons_succ]
      refine wpAnyH_ready (rs := [16]) (by kernel_rfl) (by simp) ?_
      refine AllReadyH.cons (o := ⟨some 43, _, _, _, _, _⟩) rfl (fun K hK => ?_) AllReadyH.nil
      go_simp
      refine (earn_any p F xs T0 N0 V0 _ hxl Md.P hT.2 hN _ _ rfl).mono ?_
      rintro e w5 ⟨rfl, ⟨F5, P5, f5⟩, k5⟩
      have M5 := Md.onP k5 P5 f5
      go_wp2_with fail
      refine hK.out _ _ (HC4.out _ M5.B) (fun hHeld => ?_)
      clear hK K
      try simp only [Act.put, List.setIfInBounds_toArray, List.set_cons_zero, List.set_cons_succ]
      refine wpAnyH_done (by kernel_rfl) ?_ _
      clear P5 f5 k5 Md M
      go_wp2_with fail
      go_roundw
      case rel => exact ⟨k + 1, _, _, by omega, by go_num, M5, HP2⟩
      case measure => simp [intOf]; omega
    have hxl : xs.length ≤ 100 := by have := HP.out.len; omega
    have hl0 := HP.out.los
    have hnm := HP.out.nam
    have HNM := Lib.hid hnm
    clear hnm HP
    have hall := fun W h => rows_any p F xs W hxl h
    obtain ⟨n, hn⟩ : ∃ n, n = xs.length := ⟨_, rfl⟩
    rw [← hn] at hall hxl
    have HN := Lib.hid hn
    have HALL := Lib.hid hall
    clear hall hn
    go_wp2_with fail
    refine (HALL.out _ M.P).mono ?_
    rintro e w1 ⟨A1, c1, rfl, R1, b1, k1⟩
    have M1 := M.keep k1
    have hnF : ∀ g o, A1 = some ⟨g, o, none⟩ → ¬ F g := fun g o he hf => by have := b1 g o he; have := M.P.lt g hf; omega
    have hgB : ∀ g o, A1 = some ⟨g, o, none⟩ → w.heap.size ≤ g := fun g o he => Nat.le_trans M.z (b1 g o he)
    have hee := M1.P.good
    clear M k1 b1 hlt hk
    go_wp2_with fail
    refine (earned_any p F xs _ M1.P).mono ?_
    rintro e w2 ⟨rfl, rfl⟩
    have R2 : Has w1 91 3 (.slice A1 n c1) n ((part xs 0).flatMap cf) := R1
    have HNF := Lib.hid hnF
    have HGB := Lib.hid hgB
    have HE := Lib.hid hee
    clear hnF hgB hee R1
    go_wp2_with fail
    go_loopw [7] (fun i wr => ∃ k : Nat, k ≤ n ∧ i = .int .i64 k ∧ Mem w p F xs wr ∧ Has wr 91 3 (.slice A1 n c1) n ((part xs k).flatMap cf)) (fun i _ => n - (intOf i).toNat)
    case atStart => exact ⟨0, by omega, rfl, M1, R2⟩
    case round =>
      clear M1 R2
      obtain ⟨j, hj, rfl, M, R⟩ := hrel
      by_cases hlt : j < n
      · obtain ⟨r, hr⟩ : ∃ r, xs[j]? = some r := ⟨_, List.getElem?_eq_getElem (by rw [← HN.out]; exact hlt)⟩
        have hmem : r ∈ xs := List.mem_of_getElem? hr
        have hnm := HNM.out r hmem
        have hadd := zed_run r.n hnm
        obtain ⟨g, off, rfl, hc⟩ := R.at_ (by omega)
        have hp := part_at hr
        have d1 : wr.cell? ⟨g, off + j * 3 + 1, none⟩ = some (.string r.n) := hc _ _ (flat_at cf_len hp (j := 1) rfl)
        have d2 : wr.cell? ⟨g, off + j * 3 + 2, none⟩ = some (.int .i64 r.v) := hc _ _ (flat_at cf_len hp (j := 2) rfl)
        have fz := R.icy
        have hv := val_bd HE.out hr
        have hj0 : (0 : Int) ≤ (j : Int) := by omega
        have hj1 : (j : Int) < (n : Int) := by omega
        have HP := Lib.hid hp
        have HR := Lib.hid hr
        have hnF := HNF.out g off rfl
        have hgB := HGB.out g off rfl
        clear hc hp hr hmem
        go_wp2_with fail
        have M2 := M.other (((keep1 g wr).setCell ⟨g, off + j * 3 + 2, none⟩ (.inl rfl) (.int .i64 (r.v + 1))).setCell ⟨g, off + j * 3 + 1, none⟩ (.inl rfl) (.string (zed r.n))) hnF hgB
        have R1 : Has (wr.setCell ⟨g, off + (j * 3 + 2), none⟩ (.int .i64 (r.v + 1))) 91 3 (.slice (some ⟨g, off, none⟩) n c1) n (((part xs j).set j ⟨r.t, r.n, r.v + 1⟩).flatMap cf) := R.put cf_len (by omega) HP.out (by omega) rfl
        have R2 := R1.put cf_len (by omega) (i := j) (j := 1) (x := ⟨r.t, r.n, r.v + 1⟩) (x' := bump r) (u := .string (zed r.n)) (List.getElem?_set_self (List.getElem?_eq_some_iff.1 HP.out).1) (by omega) rfl
        rw [List.set_set, part_next HR.out] at R2
        go_roundw
        case rel => exact ⟨j + 1, by omega, by go_num, M2, R2⟩
        case measure => simp [intOf]; omega
      · obtain rfl : j = n := by omega
        rw [part_all (by have := HN.out; omega)] at R
        have hq : (earn xs == earn xs) = true := by simp
        go_wp2_with fail
        refine (HALL.out _ M.P).mono ?_
        rintro e w3 ⟨A2, c2, rfl, S3, b3, k3⟩
        have M3 := M.keep k3
        have R3 := R.kept k3 (fun _ _ _ _ h => h)
        clear M R k3 b3 hlt hj
        go_wp2_with fail
        go_loopw [9] (fun i wr => ∃ k : Nat, k ≤ j ∧ i = .int .i64 k ∧ Mem w p F xs wr ∧ Has wr 91 3 (.slice A1 j c1) j ((xs.map bump).flatMap cf) ∧ Has wr 91 3 (.slice A2 j c2) j (xs.flatMap cf)) (fun i _ => j - (intOf i).toNat)
        case atStart => exact ⟨0, by omega, rfl, M3, R3, S3⟩
        case round =>
          clear M3 R3 S3
          obtain ⟨m, hm, rfl, M, R, S⟩ := hrel
          by_cases hlt : m < j
          · obtain ⟨r, hr⟩ : ∃ r, xs[m]? = some r := ⟨_, List.getElem?_eq_getElem (by rw [← HN.out]; exact hlt)⟩
            have hnm := HNM.out r (List.mem_of_getElem? hr)
            have hadd := zed_run r.n hnm
            have hp : (xs.map bump)[m]? = some (bump r) := by rw [List.getElem?_map, hr]; rfl
            obtain ⟨g, off, hA1, hc⟩ := R.at_ (by omega)
            obtain ⟨g2, off2, hA2, hc2⟩ := S.at_ (by omega)
            subst hA1 hA2
            have d1 : wr.cell? ⟨g, off + m * 3 + 1, none⟩ = some (.string (zed r.n)) := hc _ _ (flat_at cf_len hp (j := 1) rfl)
            have d2 : wr.cell? ⟨g, off + m * 3 + 2, none⟩ = some (.int .i64 (r.v + 1)) := hc _ _ (flat_at cf_len hp (j := 2) rfl)
            have e1 : wr.cell? ⟨g2, off2 + m * 3 + 1, none⟩ = some (.string r.n) := hc2 _ _ (flat_at cf_len hr (j := 1) rfl)
            have e2 : wr.cell? ⟨g2, off2 + m * 3 + 2, none⟩ = some (.int .i64 r.v) := hc2 _ _ (flat_at cf_len hr (j := 2) rfl)
            have hv := val_bd HE.out hr
            have hj0 : (0 : Int) ≤ (m : Int) := by omega
            have hj1 : (m : Int) < (j : Int) := by omega
            have hd : decide (j ≤ m) = false := by simp; omega
            have hd1 : decide ((j : Int) ≤ (m : Int)) = false := by simp; omega
            have hw : IntKind.i64.wrap r.v = r.v := IntWalk.i64_in _ (by omega)
            clear hc hc2 hp hr hv
            go_wp2_with fail
            go_quiet (fail)
            clear hw
            go_wp2_with fail
            go_roundw
            case rel => exact ⟨m + 1, by omega, by go_num, M.keep ((Keeps.refl (fun _ => False) wr).drewN _), R.kept ((Keeps.refl (fun _ => False) wr).drewN _) (fun _ _ _ _ h => h), S.kept ((Keeps.refl (fun _ => False) wr).drewN _) (fun _ _ _ _ h => h)⟩
            case measure => simp [intOf]; omega
          · go_wp2_with fail
            refine (earned_any p F xs _ M.P).mono ?_
            rintro e w5 ⟨rfl, rfl⟩
            go_wp2_with fail
            refine (lost_any p F xs _ M.P).mono ?_
            rintro e w5 ⟨rfl, rfl⟩
            rw [hl0]
            go_wp2_with fail
            go_ret
            exact ⟨rfl, M.B⟩
set_option maxHeartbeats 1000000 in
theorem walk_out (A0 : Option Addr) (n0 c0 : Nat) (w : World) (hm : n0 ≤ 9223372036854775807) (h : ¬ (1 ≤ n0 ∧ n0 ≤ 30)) :
    Calls Try.prog 13 #[.slice A0 n0 c0] w fun e w' => e = .returned (.bool true) ∧ Below w.heap.size w w' := by
  go_enter Try.func13, Try.ntmps13
  go_wp2_with fail
  refine (awake_ok w).mono ?_
  rintro e wa ⟨rfl, ba⟩
  by_cases h1 : n0 < 1
  · have h1i : (n0 : Int) < 1 := by omega
    clear h
    go_wp2_with fail
    go_ret
    exact ⟨rfl, ba⟩
  · have h2 : 30 < n0 := by omega
    clear h
    go_wp2_with fail
    go_ret
    exact ⟨rfl, ba⟩
theorem walk (A0 : Option Addr) (n0 c0 : Nat) (x0 : List {x : Act14 // x.n.size ≤ reachBytes}) (w : World) (r0 : Row (fun x : {x : Act14 // x.n.size ≤ reachBytes} => x.1.cells) 4 w A0 n0 x0) :
    Calls Try.prog 13 #[.slice A0 n0 c0] w fun e w' => e = .returned (.bool true) ∧ Below w.heap.size w w' := by
  by_cases h : 1 ≤ n0 ∧ n0 ≤ 30
  · exact walk_in A0 n0 c0 x0 w r0 h.1 h.2
  · have m1 := r0.2.1
    unfold maxLen at m1
    exact walk_out A0 n0 c0 w m1 h
theorem own : ownKnob Try.prog.godebug = none := by kernel_rfl
theorem laidOut : laidOutB Try.prog = true := by kernel_rfl
set_option maxRecDepth 100000 in
theorem lifted (os : Os) (started : os.Started) (H : Type) (enc : TypeId × Value → H) :
    ReturnsInHanded {} Try.checked os 13 .any (Rows.ledgerApartSpec.pre6 enc Try.prog Try.f13 Rows.ledgerApartRow.domain false) (Rows.ledgerApartSpec.post enc Try.prog Try.f13 false true false false) := by
  refine returnsInHanded_of_change_sized (C := Try.checked) own started (by kernel_rfl) Try.func13
    (ChangeSpec.witness6 (enc := enc) (C := Try.checked) false ⟨#[], #[.slice none 0 0], []⟩ 8 (by kernel_rfl) (by kernel_rfl) (by kernel_rfl) (by kernel_rfl)) ?_
  intro W base args ds gs before hval0 hW hcnd hz0 _
  have hval : ∀ (j : Nat) t v, Try.f13.params[j]? = some t → args[j]? = some v → Value.okWide Try.prog W .any base t v := hval0
  have hW' := hW
  obtain ⟨p, q, hA0, hV, rfl, hfz, hnd⟩ := hW
  have hA : DataW.TrodAll enc Try.prog W 0 (fun _ => true) true Try.f13.params.toList args.toList ds p := hA0
  rw [Try.params13] at hA hval
  obtain ⟨v0, vs0, d0, ds0, p0, q0, hargs, rfl, rfl, h0, r0⟩ := trodAll_cons hA
  obtain ⟨rfl, rfl, rfl⟩ := trodAll_nil r0
  obtain rfl : args = #[v0] := by cases args; simp_all
  obtain ⟨rfl, rfl⟩ := trodVars_none hV
  obtain ⟨A0, n0, c0, rfl⟩ := okWide_slice Try.underlying40 (hval 0 40 v0 rfl rfl)
  have k0 := h0
  have lt0 : ∀ x ∈ p0, x.block < W.heap.size := by obtain ⟨m, hm⟩ := k0; exact DataW.trod_lt m _ _ _ hm
  obtain ⟨x0, w0⟩ : ∃ xs, Row (fun x : {x : Act14 // x.n.size ≤ reachBytes} => x.1.cells) 4 W A0 n0 xs := by
    obtain ⟨fuel, hf⟩ := h0
    refine open_row_sized (fun x : {x : Act14 // x.n.size ≤ reachBytes} => x.1.cells) 4 (by omega) Try.underlying40 (by kernel_rfl) el_act14s (by simpa [Value.cells] using hf) (fun k hk => ?_)
    have hin := List.all_eq_true.1 hz0 k (DataW.weights_mem_each (j := 0) (t := 40) (d := d0) (by rw [Try.params13]; rfl) rfl k hk)
    simpa using hin
  clear hA0 hval0
  refine (walk A0 n0 c0 x0 W w0).mono fun e W' ⟨he, bel⟩ => ?_
  subst he
  exact ⟨_, rfl, _, _, _, [], _, [], hW', trodAll_mk1 (shut_bool Try.underlying4 _), (trodAll_cons_mk (Below.trod laidOut (by kernel_rfl) (of_decide_eq_true (by kernel_rfl)) k0 bel lt0) trodAll_mk0), rfl, bel.frame _, fun h => by cases h⟩
theorem over : Rows.ledgerApartRow.holds Try.pinned (OpenSpec.ofChange Rows.ledgerApartSpec) :=
  OpenClaim.holds_of_wide 13 Try.f13 rfl rfl rfl rfl rfl rfl rfl ⟨rfl, rfl, rfl, rfl, rfl⟩ rfl rfl rfl rfl rfl (by kernel_rfl) Try.func13 (by kernel_rfl)
    (of_decide_eq_true (by kernel_rfl)) (by unfold Func.isWrapper; first | (rw [if_pos (by decide +kernel)]; kernel_rfl) | (rw [if_neg (by decide +kernel)]; exact ⟨rfl, rfl⟩))
    (fun os started H enc _ => lifted os started H enc)
/-- The statement. -/
theorem proved : Rows.LedgerApartSaid := over
#print axioms proved
end LedgerApart
end Go.Proofs.Ytpfhogbkbodfjaa
