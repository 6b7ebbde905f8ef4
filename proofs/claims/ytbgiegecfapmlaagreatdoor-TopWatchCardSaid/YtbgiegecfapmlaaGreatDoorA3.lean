/- strings.Builder: what it writes where; conditions: at most a million bytes. script.Run at the text that every law asks first: its lines as they are kept; conditions: none. script.Run at the text that every law asks first: what its lines do, one behind the other; conditions: the library's tables as its text lays them. script.Run at the text that every law asks first; conditions: the library's tables as its text lays them. awake, of the laws of the whole: it answers true; conditions: the library's tables as its text lays them. Jobs, read off their slice; conditions: none. TopFirm: the walk; conditions: the library's tables as its text lays them. -/
import Derived.Test.YtbgiegecfapmlaaGreatDoorA2
import Derived.Lib.Builder
import Derived.Lib.AppendStr
import Derived.Test.YtbgiegecfapmlaaGreatDoorJobs2
namespace Go.Proofs.YtbgiegecfapmlaaGreatDoor
open Go.RowKit
set_option linter.unusedVariables false
set_option linter.unusedSimpArgs false
namespace Aw
open Rob (own_below own_block_lt ob_mem blk_below below_drew J own_base result fc iv Goods)
theorem infoB' : (Tryz.prog.info? 120).map (·.size) = some 2 := by kernel_rfl
theorem liesB' : liesAt Tryz.prog Tryz.prog.depth 120 (2 / Tryz.prog.cellsOf 120) 0 120 1 = true := by kernel_rfl
theorem infoU' : (Tryz.prog.info? 5).map (fun i => (i.zero, i.size, i.bytes)) = some (some (.int .u8 0), 1, 1) := by kernel_rfl
set_option maxRecDepth 100000 in
theorem copy_used {w : World} {b : Nat} (h0 : w.cell? ⟨b, 0, none⟩ = some (.pointer (some ⟨b, 0, none⟩))) : Calls Tryz.prog 102 #[.pointer (some ⟨b, 0, none⟩)] w fun e w' => e = .returned (.tuple #[]) ∧ w' = w := by
  obtain ⟨j, hj, _⟩ := Option.map_eq_some_iff.1 infoB'
  go_enter Tryz.func102, Tryz.ntmps102
  go_wp2_with fail
  rw [Lib.run_neq_ptr_same w _ Tryz.underlying117 hj]
  go_wp2_with fail
  go_end0
  exact ⟨rfl, rfl⟩
set_option maxRecDepth 100000 in
set_option maxHeartbeats 1000000 in
theorem copy_fresh {w : World} {b : Nat} {v : Value} (h : Blk w b 120 [.pointer none, v]) : Calls Tryz.prog 102 #[.pointer (some ⟨b, 0, none⟩)] w fun e w' => e = .returned (.tuple #[]) ∧ w' = w.setCell ⟨b, 0, none⟩ (.pointer (some ⟨b, 0, none⟩)) := by
  obtain ⟨j, hj, hjs⟩ := Option.map_eq_some_iff.1 infoB'
  have h0 : w.cell? ⟨b, 0, none⟩ = some (.pointer none) := h.cellAt (i := 0) rfl
  have hsh : w.shape? b = some (120, 2) := by unfold Blk at h; simp [World.shape?, h]
  have hfz := h.frozen 0
  go_enter Tryz.func102, Tryz.ntmps102
  go_wp2_with fail
  rw [Lib.run_to_unsafe w ⟨b, 0, none⟩ Tryz.underlying117 Tryz.underlying250 hj (by rw [hjs]; decide) hsh (Nat.zero_lt_succ 1)]
  simp only [Result.andThen]
  rw [Oper.upon_value]
  go_wp2_with fail
  rw [run_callFunc_extern Tryz.func131 (by kernel_rfl) (by kernel_rfl) (by kernel_rfl) (e := Extern.AbiNoEscape.same) (by kernel_rfl)]
  rw [Lib.run_noEscape]
  simp only [Result.andThen]
  rw [Oper.upon_value]
  go_wp2_with fail
  rw [Lib.run_from_unsafe w ⟨b, 0, none⟩ Tryz.underlying250 Tryz.underlying117 hj hsh liesB']
  simp only [Result.andThen]
  rw [Oper.upon_value]
  go_wp2_with fail
  go_end0
  exact ⟨rfl, rfl⟩
section
variable {P : Program} (w : World)
/-- Where a string's bytes are appended, the row is the old one or a new one. -/
theorem str_fresh (base : Nat) (t u ty e : TypeId) (i : TypeInfo) (ht : P.underlying t = some (.slice e)) (hu : P.underlying u = some .string) (hi : P.info? e = some i) (hz : i.zero = some (.int .u8 0))
    (hsize : i.size = 1) (hby : i.bytes = 1)
    (v : Value) (n : Nat) (xs : List Value) (hown : w.ownsRow base e 1 v n xs) (s : ByteArray)
    (h63 : n + s.size ≤ maxLen) (hbytes : n + s.size ≤ 140737488355328) (hbase : base ≤ w.heap.size) :
    ∃ v' w', (Builtin.append_ #[t, u] ty #[v, .string s]).run P w = .ok v' w' ∧ w'.ownsRow base e 1 v' (n + s.size) (xs ++ Lib.strCells s) ∧ w.grownBy w' v.ownBlock ∧
      (v'.ownBlock = v.ownBlock ∨ ∀ q, v'.ownBlock = some q → w.heap.size ≤ q) := by
  obtain ⟨v', w', hr, h2, h3, h4⟩ := Lib.run_append_own_string (P := P) w base t u ty e i ht hu hi hz hsize hby v n xs hown s h63 hbytes hbase
  refine ⟨v', w', hr, h2, h3, ?_⟩
  have hsmall : n + s.size ≤ 9223372036854775807 := by simp only [maxLen] at h63; omega
  rcases hown.2 with ⟨rfl, rfl⟩ | ⟨g, cap, cur, rfl, hbg, hg, hnc, hcm, hcs, htake⟩
  · obtain ⟨v2, w2, hr2, g2, _, _⟩ := Lib.run_append_own_string (P := P) w w.heap.size t u ty e i ht hu hi hz hsize hby (.slice none 0 0) 0 xs ⟨hown.1, .inl ⟨rfl, rfl⟩⟩ s h63 hbytes (Nat.le_refl _)
    rw [hr] at hr2
    injection hr2 with e1 e2
    subst e1 e2
    exact .inr (fun q hq => (own_block_lt g2 q (ob_mem.2 hq)).1)
  · by_cases hroom : n + s.size ≤ cap
    · have hcs' : cur.size = cap := by simpa using hcs
      have hr2 := Lib.run_append_room_string (P := P) w t u ty e i ht hu hi hsize g n cap cur hg s hroom (by omega)
      rw [hr] at hr2
      injection hr2 with e1 e2
      subst e1
      exact .inl rfl
    · have holds : ∀ j u, xs[j]? = some u → w.cell? ((⟨g, 0, none⟩ : Addr).add j) = some u := hown.cells (g := g) rfl
      have hxl : xs.length = n := by simpa using hown.1
      have hr2 := Lib.run_append_grow_string (P := P) w t u ty e i (.int .u8 0) ht hu hi hz ⟨g, 0, none⟩ n cap xs (by rw [hsize]; simpa using hxl) holds s (by omega) (by omega) (by rw [hby]; exact growslice_fits (by omega) (by omega))
      rw [hr] at hr2
      injection hr2 with e1 e2
      subst e1
      exact .inr (fun q hq => by
        have : w.heap.size = q := Option.some.inj hq
        omega)
theorem wpList_str {ops : Array Oper} {rest : List Oper} {o : Oper} {a : Act} {Q : Exit → Act → World → Prop} {w : World} (hgd : o.guard = none) (sl x : Operand) (t u : TypeId)
    (ho : o.op = .call { callee := .builtin .append, args := #[sl, x], argTypes := #[t, u] })
    (base : Nat) (e : TypeId) (i : TypeInfo) (ht : P.underlying t = some (.slice e)) (hu : P.underlying u = some .string) (hi : P.info? e = some i) (hz : i.zero = some (.int .u8 0))
    (hsize : i.size = 1) (hby : i.bytes = 1)
    (v : Value) (n : Nat) (xs : List Value) (hs : a.eval sl = v) (hown : w.ownsRow base e 1 v n xs) (s : ByteArray) (hx : a.eval x = .string s)
    (h63 : n + s.size ≤ maxLen) (hbytes : n + s.size ≤ 140737488355328) (hbase : base ≤ w.heap.size)
    (h : ∀ v' w', w'.ownsRow base e 1 v' (n + s.size) (xs ++ Lib.strCells s) → w.grownBy w' v.ownBlock → (v'.ownBlock = v.ownBlock ∨ ∀ q, v'.ownBlock = some q → w.heap.size ≤ q) → wpList P ops Q rest (a.put o.dst v') w') : wpList P ops Q (o :: rest) a w := by
  refine wpList_plain hgd fun K hK => ?_
  obtain ⟨v', w', hr, h2, h3, h4⟩ := str_fresh (P := P) w base t u o.type e i ht hu hi hz hsize hby v n xs hown s h63 hbytes hbase
  unfold Oper.wp execOp
  simp only [ho, resolve, invoke, builtin, Sem.run_bind, Sem.run_pure, Result.andThen_ok, List.map_toArray, List.map_cons, List.map_nil, hs, hx, hr]
  exact hK _ _ (h v' w' h2 h3 h4)
end
/-- A builder at block b that holds bytes. -/
structure Bd (w : World) (b base : Nat) (p v : Value) (l : List UInt8) : Prop where
  B : Blk w b 120 [p, v]
  O : w.ownsRow base 5 1 v l.length (Lib.byteCells l)
def Self (b : Nat) : Value := .pointer (some ⟨b, 0, none⟩)
theorem copy_any {w : World} {b base : Nat} {p v : Value} {l : List UInt8} (h : Bd w b base p v l) (hp : p = .pointer none ∨ p = Self b) : Calls Tryz.prog 102 #[.pointer (some ⟨b, 0, none⟩)] w fun e w' => e = .returned (.tuple #[]) ∧ Bd w' b base (Self b) v l ∧ Keeps (· = b) w w' ∧ w'.heap.size = w.heap.size := by
  rcases hp with rfl | rfl
  · refine (copy_fresh h.B).mono ?_
    rintro e w' ⟨rfl, rfl⟩
    have kk := (keep1 b w).setCell ⟨b, 0, none⟩ (.inl rfl) (.pointer (some ⟨b, 0, none⟩))
    exact ⟨rfl, ⟨h.B.set_ 0 _, own_kept h.O kk (fun g cur hg _ => own_ne (e := 5) h.B (by decide) g cur hg)⟩, kk, by simp [World.setCell]⟩
  · refine (copy_used (h.B.cellAt (i := 0) rfl)).mono ?_
    rintro e w' ⟨rfl, rfl⟩
    exact ⟨rfl, h, keep1 b _, rfl⟩
set_option maxRecDepth 100000 in
set_option maxHeartbeats 4000000 in
theorem write_is {w : World} {b base : Nat} {p v : Value} {l : List UInt8} (h : Bd w b base p v l) (hp : p = .pointer none ∨ p = Self b) (s : ByteArray) (hlen : l.length + s.size ≤ 1000000) (hbase : base ≤ w.heap.size) :
    Calls Tryz.prog 54 #[.pointer (some ⟨b, 0, none⟩), .string s] w fun e w' => e = .returned (.tuple #[.int .i64 (s.size : Int), .nilIface]) ∧ ∃ v', Bd w' b base (Self b) v' (l ++ s.data.toList) ∧ Keeps (fun q => q = b ∨ v.ownBlock = some q) w w' ∧ (v'.ownBlock = v.ownBlock ∨ ∀ q, v'.ownBlock = some q → w.heap.size ≤ q) := by
  obtain ⟨i0, hI0, hz0, hz1, hz2⟩ := info_parts infoU'
  have CC := copy_any h hp
  have hbz := Lib.hid hbase
  clear h hp hbase
  go_enter Tryz.func54, Tryz.ntmps54
  go_upto_region 2 with (go_at_call 102; refine CC.mono ?_; rintro e w1 ⟨rfl, h1, k1, hsz⟩)
  obtain ⟨A1, c1, e1⟩ := own_shape h1.O
  subst e1
  have O1 := h1.O
  have b0 : w1.cell? ⟨b, 1, none⟩ = some (.slice A1 l.length c1) := h1.B.cellAt (i := 1) rfl
  have H1 := Lib.hid h1
  have K1 := Lib.hid k1
  have HSZ := Lib.hid hsz
  have hb1 : base ≤ w1.heap.size := by rw [hsz]; exact hbz.out
  clear h1 k1 hsz CC
  go_upto_region 3 with (at_builtin; refine wpList_str rfl (.tmp 12) (.tmp 13) 118 9 rfl base 5 i0 Tryz.underlying118 Tryz.underlying9 hI0 hz0 hz1 hz2 _ _ _ rfl O1 s rfl (by unfold maxLen; omega) (by omega) hb1 ?_; intro v2 w2 own2 g2 at2; obtain ⟨A2, c2, e2⟩ := own_shape own2; subst e2; have hnb : (Value.slice A1 l.length c1).ownBlock ≠ some b := own_type_ne H1.out.O H1.out.B (by decide); have B2 := H1.out.B.grown g2 hnb; have f2 := B2.frozen; have b2 : w2.cell? ⟨b, 1, none⟩ = some (.slice A1 l.length c1) := B2.cellAt (i := 1) rfl; have OWN := Lib.hid own2; have HB2 := Lib.hid B2; have KG := Lib.hid (keeps_grown (Keeps.refl (fun q => (Value.slice A1 l.length c1).ownBlock = some q) w1) g2 (fun g hg => .inl hg)); have AT := Lib.hid at2; clear own2 B2 g2 at2 hnb O1 b0)
  go_wp2_with fail
  refine bodyPost_ret (v := .tuple #[.int .i64 (s.size : Int), .nilIface]) (by simp [results, Tryz.results54, go_sem]) rfl ?_
  have kb := (keep1 b w2).setCell ⟨b, 1, none⟩ (.inl rfl) (.slice A2 (l.length + s.size) c2)
  have hl : (l ++ s.data.toList).length = l.length + s.size := by rw [List.length_append, Array.length_toList]; rfl
  have hb : Lib.byteCells (l ++ s.data.toList) = Lib.byteCells l ++ Lib.strCells s := by unfold Lib.byteCells Lib.strCells; rw [List.map_append]
  have hO : (w2.setCell ⟨b, 1, none⟩ (.slice A2 (l.length + s.size) c2)).ownsRow base 5 1 (.slice A2 (l.length + s.size) c2) (l ++ s.data.toList).length (Lib.byteCells (l ++ s.data.toList)) := by
    rw [hl, hb]; exact own_kept OWN.out kb (fun g cur hg _ => own_ne (e := 5) HB2.out (by decide) g cur hg)
  have kk := ((K1.out.mono (S' := fun q => q = b ∨ (Value.slice A1 l.length c1).ownBlock = some q) (fun _ _ h => .inl h)).trans KG.out (fun _ _ h => .inr h)).setCell ⟨b, 1, none⟩ (.inl (.inl rfl)) (.slice A2 (l.length + s.size) c2)
  exact ⟨rfl, _, ⟨HB2.out.set_ 1 _, hO⟩, kk, AT.out.imp id (fun h q hq => by have := h q hq; have := HSZ.out; omega)⟩
end Aw
end Go.Proofs.YtbgiegecfapmlaaGreatDoor

namespace Go.Proofs.YtbgiegecfapmlaaGreatDoor
open Go.RowKit
set_option linter.unusedVariables false
set_option linter.unusedSimpArgs false
namespace Aw
open Rob (own_below own_block_lt ob_mem blk_below below_drew J own_base result fc iv Goods)
open Job (jc jv)
def dsA : Nat → Nat
  | 0 => 0
  | 1 => 4
  | 2 => 2
  | 3 => 2
  | 4 => 5
  | _ => 0
def nmA : ByteArray := ⟨#[97]⟩
/-- The text's job. -/
def jA : J := jof nmA dsA
theorem w1e : words L1 = ⟨#[106, 111, 98]⟩ :: nmA :: jrest dsA 0 := by rw [words1]; rfl
theorem w3e : words L3 = [⟨#[114, 117, 110]⟩, dg 3] := by rw [words3]; rfl
theorem dsA_lt (i : Nat) : dsA i < 6 := by
  match i with
  | 0 => decide
  | 1 => decide
  | 2 => decide
  | 3 => decide
  | 4 => decide
  | _ + 5 => exact (by decide : (0 : Nat) < 6)
/-- The line m is kept as v. -/
def Q (m : Nat) (w : World) (P : Nat) (v : Value) : Prop :=
  match m with
  | 0 => Cl1 w P jA v
  | 1 => Cl3 w P v
  | 2 => Cl4 w P 3 v
  | _ => ClA w P v
section
variable {w w' wr : World} {P V r : Nat} {S : Nat → Prop} {v : Value}
theorem Q.kept {m : Nat} (h : Q m w P v) (k : Keeps S w w') (o : Off w S) : Q m w' P v := by
  match m, h with
  | 0, h => exact Cl1.kept h k o
  | 1, h => exact Cl3.kept h k o
  | 2, h => exact Cl4.kept h k o
  | _ + 3, h => exact ClA.kept h k o
theorem Q.one {m : Nat} (h : Q m w P v) : v.oneCell' = true := by
  match m, h with
  | 0, ⟨_, _, e, _⟩ => rw [e]; rfl
  | 1, ⟨_, e, _⟩ => rw [e]; rfl
  | 2, ⟨_, _, e, _⟩ => rw [e]; rfl
  | _ + 3, ⟨_, _, e, _⟩ => rw [e]; rfl
theorem line_any {m : Nat} (hm : m < 4) {l : ByteArray} (hl : Ls[m + 1]? = some l) (h : Rd w r (words l)) : Calls Tryz.prog 231 #[.pointer (some ⟨P, 0, none⟩), .pointer (some ⟨r, 0, none⟩)] w fun e w' => ∃ v, e = .returned v ∧ Q m w' P v ∧ Rd w' r [] ∧ Keeps (· = r) w w' := by
  have : m = 0 ∨ m = 1 ∨ m = 2 ∨ m = 3 := by omega
  rcases this with rfl | rfl | rfl | rfl
  · have e : l = L1 := (Option.some.inj hl).symm
    subst e
    rw [w1e] at h
    exact line_job dsA_lt h
  · have e : l = L2 := (Option.some.inj hl).symm
    subst e
    rw [words2] at h
    exact line_start h
  · have e : l = L3 := (Option.some.inj hl).symm
    subst e
    rw [w3e] at h
    exact line_run (by decide) h
  · have e : l = L4 := (Option.some.inj hl).symm
    subst e
    rw [words4] at h
    exact line_earned h
theorem own_off {base n size : Nat} {e t : TypeId} {xs : List Value} (h : w.ownsRow base e size v n xs) (hne : e ≠ t) : ∀ g cur, w.heap[g]? = some (.cells cur t (0, 0)) → ¬ v.ownBlock = some g := by
  intro g cur hg
  exact own_type_ne h (show Blk w g t cur.toList from by unfold Blk; simpa using hg) hne
theorem Off.of_own {base n size : Nat} {e : TypeId} {xs : List Value} (h : w.ownsRow base e size v n xs) (h1 : e ≠ 171) (h2 : e ≠ 36) (h3 : e ≠ 3) (h4 : e ≠ 352) : Off w (fun b => v.ownBlock = some b) := by
  intro b' t' cs' X ht e
  rcases ht with rfl | rfl | rfl | rfl
  · exact own_type_ne h X h1 e
  · exact own_type_ne h X h2 e
  · exact own_type_ne h X h3 e
  · exact own_type_ne h X h4 e
/-- While the lines are read: from 'ri' on they are unread, i of them are kept. -/
structure Lp (w0 : World) (P V : Nat) (rs : List Nat) (rv : Value) (ri i : Nat) (vs : List Value) (av : Value) (wr : World) : Prop where
  B : Below w0.heap.size w0 wr
  hP : Blk wr P 173 [.pointer none]
  hV : Blk wr V 171 [.pointer (some ⟨P, 0, none⟩)]
  R : Has wr 112 1 rv 5 (pv rs)
  L : ∀ (m r : Nat), ri ≤ m → rs[m]? = some r → ∃ l, Ls[m]? = some l ∧ Rd wr r (words l)
  n : vs.length = i
  O : wr.ownsRow w0.heap.size 115 1 av i vs
  C : ∀ (m : Nat) (v : Value), vs[m]? = some v → Q m wr P v
variable {w0 : World} {rs : List Nat} {rv av : Value} {ri i : Nat} {vs : List Value}
theorem Rd.cells {ws : List ByteArray} (h : Rd w r ws) : ∃ cs, Blk w r 170 cs := by
  obtain ⟨A, c, h, _⟩ := h
  exact ⟨_, h⟩
theorem Lp.read (h : Lp w0 P V rs rv ri i vs av wr) {ws : List ByteArray} (hr : rs[ri]? = some r) (hR : Rd wr r ws) (hnd : rs.Nodup) (hge : w0.heap.size ≤ r) (k : Keeps (· = r) wr w') : Lp w0 P V rs rv (ri + 1) i vs av w' := by
  obtain ⟨cs, hX⟩ := hR.cells
  have ho : Off wr (· = r) := Off.of_blk hX (by decide) (by decide) (by decide) (by decide)
  refine ⟨below_keeps h.B k h.B.size (fun b e => by omega), h.hP.kept k (Blk.ne_ h.hP hX (by decide)), h.hV.kept k (Blk.ne_ h.hV hX (by decide)), h.R.kept k (fun g cur hg _ => own_ne (e := 112) hX (by decide) g cur hg), ?_, h.n, own_kept h.O k (fun g cur hg _ => own_ne (e := 115) hX (by decide) g cur hg), fun m v hv => (h.C m v hv).kept k ho⟩
  intro m r' hm hr'
  obtain ⟨l, hl, hR'⟩ := h.L m r' (by omega) hr'
  refine ⟨l, hl, hR'.kept k (fun e => ?_) (own_ne hX (by decide))⟩
  subst e
  have := (List.getElem?_inj (List.getElem?_eq_some_iff.1 hr).1 hnd).1 (hr.trans hr'.symm)
  omega
theorem Lp.app (h : Lp w0 P V rs rv ri i vs av wr) (hq : Q i wr P v) {av' : Value} (hO : w'.ownsRow w0.heap.size 115 1 av' (i + 1) (vs ++ [v])) (k : Keeps (fun b => av.ownBlock = some b) wr w') : Lp w0 P V rs rv ri (i + 1) (vs ++ [v]) av' w' := by
  have ho : Off wr (fun b => av.ownBlock = some b) := Off.of_own h.O (by decide) (by decide) (by decide) (by decide)
  refine ⟨below_keeps h.B k h.B.size (fun b e => (own_block_lt h.O b (ob_mem.2 e)).1), h.hP.kept k (own_type_ne h.O h.hP (by decide)), h.hV.kept k (own_type_ne h.O h.hV (by decide)), h.R.kept k (fun g cur hg _ => own_off h.O (by decide) g cur hg), ?_, by rw [List.length_append, h.n]; rfl, hO, ?_⟩
  · intro m r' hm hr'
    obtain ⟨l, hl, hR'⟩ := h.L m r' hm hr'
    obtain ⟨cs, hX⟩ := hR'.cells
    exact ⟨l, hl, hR'.kept k (own_type_ne h.O hX (by decide)) (own_off h.O (by decide))⟩
  · intro m u hu
    rw [List.getElem?_append] at hu
    split at hu
    · exact (h.C m u hu).kept k ho
    · rename_i hm
      have hm2 : m = i := by
        have := (List.getElem?_eq_some_iff.1 hu).1
        have := h.n
        simp at *
        omega
      subst hm2
      rw [h.n, Nat.sub_self] at hu
      have : v = u := Option.some.inj hu
      subst this
      exact hq.kept k ho
end
end Aw
end Go.Proofs.YtbgiegecfapmlaaGreatDoor

namespace Go.Proofs.YtbgiegecfapmlaaGreatDoor
open Go.RowKit
set_option linter.unusedVariables false
set_option linter.unusedSimpArgs false
namespace Aw
open Rob (own_below own_block_lt ob_mem blk_below below_drew J own_base result fc iv Goods)
open Job (jc jv)
theorem good_A : Job.good jA = true := by decide +kernel
theorem all_A : Job.all [jA] = true := by decide +kernel
theorem tr_A : (res [jA]).tr = [0, 0, -1, -1] := by decide +kernel
theorem earn_A : Led.earn (rowsTo [jA] (book (res [jA]).fs) 1) = 5 := by decide +kernel
theorem told_A : told [0, 0, -1] = ⟨#[48, 44, 48, 44, 45]⟩ := by decide +kernel
theorem dig_0 : (⟨(Lib.decDigits ([] : List J).length).toArray⟩ : ByteArray) = ⟨#[48]⟩ := by decide +kernel
theorem dig_5 : (⟨(Lib.decDigits 5).toArray⟩ : ByteArray) = ⟨#[53]⟩ := by decide +kernel
theorem goods_A : Goods [jA] := by
  intro x hx
  have : x = jA := by simpa using hx
  subst this
  exact ⟨good_A, by decide⟩
/-- What a line answers. -/
def out : Nat → ByteArray
  | 0 => ⟨#[48]⟩
  | 1 => ⟨#[111, 107]⟩
  | 2 => ⟨#[48, 44, 48, 44, 45]⟩
  | _ => ⟨#[53]⟩
/-- The machine, where i lines have been done; bv: a builder's bytes, apart from it. -/
def Mach (w : World) (x b : Nat) (bv : Value) : Nat → Prop
  | 0 => Blk w x 69 (xc (.slice none 0 0) (.pointer none))
  | 1 => ∃ lv base, Blk w x 69 (xc lv (.pointer none)) ∧ w.ownsRow base 36 8 lv [jA].length ([jA].flatMap jc)
  | 2 => ∃ lv k Aj cj tv bp g, Blk w x 69 (xc lv (.pointer (some ⟨k, 0, none⟩))) ∧ Kn w k [jA] (res [jA]).tr (book (res [jA]).fs) 0 Aj cj tv bp g ∧ x < k ∧ (∀ a, Aj = some a → bv.ownBlock ≠ some a.block ∧ b < a.block)
  | 3 => ∃ lv k Aj cj tv bp g, Blk w x 69 (xc lv (.pointer (some ⟨k, 0, none⟩))) ∧ Kn w k [jA] (res [jA]).tr (book (res [jA]).fs) 3 Aj cj tv bp g ∧ x < k ∧ (∀ a, Aj = some a → bv.ownBlock ≠ some a.block ∧ b < a.block)
  | _ => True
/-- Where i lines have been done, l written. -/
structure Pl (w0 : World) (P b x : Nat) (av : Value) (vs : List Value) (i : Nat) (p bv : Value) (l : List UInt8) (w : World) : Prop where
  B : Below w0.heap.size w0 w
  hP : Blk w P 173 [.pointer (some ⟨x, 0, none⟩)]
  hx : w0.heap.size ≤ x
  hb : w0.heap.size ≤ b
  R : Has w 115 1 av 4 vs
  C : ∀ (m : Nat) (v : Value), vs[m]? = some v → Q m w P v
  hp : p = .pointer none ∨ p = Self b
  D : Bd w b w0.heap.size p bv l
  M : Mach w x b bv i
section
variable {w w' w0 : World} {P b x i : Nat} {S : Nat → Prop} {v av p bv : Value} {vs : List Value} {l : List UInt8}
/-- Another machine's step: all else is as it was. -/
theorem Pl.step (h : Pl w0 P b x av vs i p bv l w) {j t : Nat} {cs : List Value} (ht : Blk w j t cs) (h1 : t ≠ 171) (h2 : t ≠ 36) (h3 : t ≠ 3) (h4 : t ≠ 352) (h5 : 173 ≠ t) (h6 : 115 ≠ t) (h7 : 120 ≠ t) (h8 : 5 ≠ t)
    (hj : w0.heap.size ≤ j) (k : Keeps (· = j) w w') {i' : Nat} (M : Mach w' x b bv i') : Pl w0 P b x av vs i' p bv l w' :=
  ⟨below_keeps h.B k h.B.size (fun b e => by omega), h.hP.kept k (Blk.ne_ h.hP ht h5), h.hx, h.hb, h.R.kept k (fun g cur hg _ => own_ne (e := 115) ht h6 g cur hg), fun m v hv => (h.C m v hv).kept k (Off.of_blk ht h1 h2 h3 h4), h.hp, ⟨h.D.B.kept k (Blk.ne_ h.D.B ht h7), own_kept h.D.O k (fun g cur hg _ => own_ne (e := 5) ht h8 g cur hg)⟩, M⟩
theorem lt_of_blk {a : Nat} {t : TypeId} {cs : List Value} (h : Blk w a t cs) : a < w.heap.size := h.lt
theorem Pl.stay (h : Pl w0 P b x av vs i p bv l w) (k : Keeps (fun _ => False) w w') {i' : Nat} (M : Mach w' x b bv i') : Pl w0 P b x av vs i' p bv l w' :=
  ⟨below_keeps h.B k h.B.size (fun b e => e.elim), h.hP.kept k (fun h => h), h.hx, h.hb, h.R.kept k (fun _ _ _ _ h => h), fun m v hv => (h.C m v hv).kept k (Off.no _), h.hp, ⟨h.D.B.kept k (fun h => h), own_kept h.D.O k (fun _ _ _ _ h => h)⟩, M⟩
theorem step0 (T : Tabs w0) (h : Pl w0 P b x av vs 0 p bv l w) (hv : vs[0]? = some v) : ∃ Bx Jb, v = .func (.func 233) #[] #[.pointer (some ⟨Bx, 0, none⟩), .pointer (some ⟨Jb, 0, none⟩)] ∧
    Calls Tryz.prog 233 #[.pointer (some ⟨Bx, 0, none⟩), .pointer (some ⟨Jb, 0, none⟩)] w fun e w' => e = .returned (.tuple #[.string (out 0), .int .i64 0]) ∧ Pl w0 P b x av vs 1 p bv l w' := by
  obtain ⟨Bx, Jb, hv, X, Y⟩ := h.C 0 v hv
  refine ⟨Bx, Jb, hv, ?_⟩
  have hM : Blk w x 69 (xc (.slice none 0 0) (.pointer none)) := h.M
  refine (line1_is (js := []) (base := w.heap.size) (T.below h.B) X h.hP Y hM ⟨rfl, .inl ⟨rfl, rfl⟩⟩ (Nat.le_refl _) Y.lt good_A (by decide) (by decide)).mono ?_
  rintro e w' ⟨rfl, lv', X', O', k⟩
  exact ⟨by rw [dig_0]; rfl, h.step hM (by decide) (by decide) (by decide) (by decide) (by decide) (by decide) (by decide) (by decide) h.hx (k.mono (fun b _ hb => hb.elim id (fun e => by cases e))) ⟨lv', _, X', O'⟩⟩
theorem step1 (T : Tabs w0) (h : Pl w0 P b x av vs 1 p bv l w) (hv : vs[1]? = some v) : ∃ Bx, v = .func (.func 237) #[] #[.pointer (some ⟨Bx, 0, none⟩)] ∧
    Calls Tryz.prog 237 #[.pointer (some ⟨Bx, 0, none⟩)] w fun e w' => e = .returned (.tuple #[.string (out 1), .int .i64 0]) ∧ Pl w0 P b x av vs 2 p bv l w' := by
  obtain ⟨Bx, hv, X⟩ := h.C 1 v hv
  refine ⟨Bx, hv, ?_⟩
  obtain ⟨lv, base, hM, O⟩ := h.M
  refine (line3_is (T.below h.B) X h.hP hM O goods_A all_A (by decide)).mono ?_
  rintro e w' ⟨rfl, k, Aj, cj, tv, bp, g, X', K', hk, ha, kk⟩
  have hbl : ∀ q, bv.ownBlock = some q → q < w.heap.size := fun q hq => (own_block_lt h.D.O q (ob_mem.2 hq)).2
  have hxl := hM.lt
  exact ⟨rfl, h.step hM (by decide) (by decide) (by decide) (by decide) (by decide) (by decide) (by decide) (by decide) h.hx kk ⟨lv, k, Aj, cj, tv, bp, g, X', K', by omega, fun a ea => ⟨fun e => by have := hbl _ e; have := ha a ea; omega, Nat.lt_of_lt_of_le h.D.B.lt (ha a ea)⟩⟩⟩
theorem step2 (h : Pl w0 P b x av vs 2 p bv l w) (hv : vs[2]? = some v) : ∃ Bx Nb, v = .func (.func 238) #[] #[.pointer (some ⟨Bx, 0, none⟩), .pointer (some ⟨Nb, 0, none⟩)] ∧
    Calls Tryz.prog 238 #[.pointer (some ⟨Bx, 0, none⟩), .pointer (some ⟨Nb, 0, none⟩)] w fun e w' => e = .returned (.tuple #[.string (out 2), .int .i64 0]) ∧ Pl w0 P b x av vs 3 p bv l w' := by
  obtain ⟨Bx, Nb, hv, X, Y⟩ := h.C 2 v hv
  refine ⟨Bx, Nb, hv, ?_⟩
  obtain ⟨lv, k, Aj, cj, tv, bp, g, hM, hK, hxk, hd⟩ := h.M
  have hlen : (res [jA]).tr.length = 4 := by rw [tr_A]; rfl
  have C := line4_is (t := 0) (m := 3) (l := [0, 0, -1]) X h.hP Y hM hK (Nat.zero_le _) (by rw [hlen]; decide) (by decide) (by rw [tr_A]; rfl) (by decide) (by decide) (by decide) (by rw [told_A]; decide)
  rw [told_A] at C
  refine C.mono ?_
  rintro e w' ⟨rfl, X', K', kk⟩
  have hx := h.hx
  exact ⟨rfl, h.step hK.K (by decide) (by decide) (by decide) (by decide) (by decide) (by decide) (by decide) (by decide) (by omega) kk ⟨lv, k, Aj, cj, tv, bp, g, X', K', hxk, hd⟩⟩
theorem step3 (h : Pl w0 P b x av vs 3 p bv l w) (hv : vs[3]? = some v) : ∃ Bx Sb, v = .func (.func 248) #[] #[.pointer (some ⟨Bx, 0, none⟩), .pointer (some ⟨Sb, 0, none⟩)] ∧
    Calls Tryz.prog 248 #[.pointer (some ⟨Bx, 0, none⟩), .pointer (some ⟨Sb, 0, none⟩)] w fun e w' => e = .returned (.tuple #[.string (out 3), .int .i64 0]) ∧ Pl w0 P b x av vs 4 p bv l w' := by
  obtain ⟨Bx, Sb, hv, X, Y⟩ := h.C 3 v hv
  refine ⟨Bx, Sb, hv, ?_⟩
  obtain ⟨lv, k, Aj, cj, tv, bp, g, hM, hK, hxk, hd⟩ := h.M
  have hlen : (res [jA]).tr.length = 4 := by rw [tr_A]; rfl
  obtain ⟨A, c, e⟩ := hK.T.shape
  subst e
  refine (asks_is (E := 5) X h.hP Y hM hK (by decide) (by intro x hx; have : x = jA := by simpa using hx
                                                          subst this; decide) (by rw [hlen]; decide) earn_A (by decide)).mono ?_
  rintro e w' ⟨rfl, b'⟩
  exact ⟨by rw [dig_5]; rfl, h.stay (Keeps.of_below b') trivial⟩
/-- The builder's own step. -/
theorem Mach.write {base : Nat} {bv' : Value} (M : Mach w x b bv i) (D : Bd w b base p bv l) (k : Keeps (fun q => q = b ∨ bv.ownBlock = some q) w w') (hn : bv'.ownBlock = bv.ownBlock ∨ ∀ q, bv'.ownBlock = some q → w.heap.size ≤ q) : Mach w' x b bv' i := by
  have hnot : ∀ (t : TypeId) (g : Nat) (cs : List Value), Blk w g t cs → t ≠ 120 → 5 ≠ t → ¬ (g = b ∨ bv.ownBlock = some g) := fun t g cs X h1 h2 e => e.elim (Blk.ne_ X D.B h1) (own_type_ne D.O X h2)
  have hap : ∀ a : Nat, a < w.heap.size → bv.ownBlock ≠ some a → bv'.ownBlock ≠ some a := fun a ha h e => hn.elim (fun q => h (q ▸ e)) (fun q => by have := q a e; omega)
  have htv : ∀ (tv : Value) (n : Nat) (cs : List Value), Has w 3 1 tv n cs → ∀ q, tv.ownBlock = some q → ¬ (q = b ∨ bv.ownBlock = some q) := by
    intro tv n cs hT q hq
    rcases hT.2 with ⟨e, _⟩ | ⟨g, off, cap, cur, e, _, _, hg, _⟩
    · rw [e] at hq; cases hq
    · rw [e] at hq
      have : g = q := Option.some.inj hq
      subst this
      exact hnot 3 g cur.toList (by unfold Blk; simpa using hg) (by decide) (by decide)
  match i, M with
  | 0, M => exact Blk.kept (show Blk w x 69 _ from M) k (hnot _ _ _ M (by decide) (by decide))
  | 1, ⟨lv, base, X, O⟩ =>
    exact ⟨lv, base, X.kept k (hnot _ _ _ X (by decide) (by decide)), own_kept O k (fun g cur hg _ => hnot 36 g cur.toList (by unfold Blk; simpa using hg) (by decide) (by decide))⟩
  | 2, ⟨lv, k', Aj, cj, tv, bp, g, X, K, hk, hd⟩ =>
    exact ⟨lv, k', Aj, cj, tv, bp, g, X.kept k (hnot _ _ _ X (by decide) (by decide)), K.kept k (hnot _ _ _ K.K (by decide) (by decide)) (fun a ha e => e.elim (fun e => by have := (hd a ha).2; omega) (hd a ha).1) (fun q hq => htv _ _ _ K.T q hq) (hnot _ _ _ K.F.B (by decide) (by decide)) (hnot _ _ _ K.F.G (by decide) (by decide)), hk, fun a ha => ⟨hap _ (K.al a ha) (hd a ha).1, (hd a ha).2⟩⟩
  | 3, ⟨lv, k', Aj, cj, tv, bp, g, X, K, hk, hd⟩ =>
    exact ⟨lv, k', Aj, cj, tv, bp, g, X.kept k (hnot _ _ _ X (by decide) (by decide)), K.kept k (hnot _ _ _ K.K (by decide) (by decide)) (fun a ha e => e.elim (fun e => by have := (hd a ha).2; omega) (hd a ha).1) (fun q hq => htv _ _ _ K.T q hq) (hnot _ _ _ K.F.B (by decide) (by decide)) (hnot _ _ _ K.F.G (by decide) (by decide)), hk, fun a ha => ⟨hap _ (K.al a ha) (hd a ha).1, (hd a ha).2⟩⟩
  | _ + 4, _ => trivial
theorem Pl.write (h : Pl w0 P b x av vs i p bv l w) (s : ByteArray) (hl : l.length + s.size ≤ 1000000) : Calls Tryz.prog 54 #[.pointer (some ⟨b, 0, none⟩), .string s] w fun e w' => e = .returned (.tuple #[.int .i64 (s.size : Int), .nilIface]) ∧ ∃ bv', Pl w0 P b x av vs i (Self b) bv' (l ++ s.data.toList) w' := by
  refine (write_is h.D h.hp s hl h.B.size).mono ?_
  rintro e w' ⟨rfl, bv', D', k, hn⟩
  have hb := h.hb
  have hbb : ∀ q, bv.ownBlock = some q → w0.heap.size ≤ q := fun q hq => (own_block_lt h.D.O q (ob_mem.2 hq)).1
  have hnot : ∀ (t : TypeId) (g : Nat) (cs : List Value), Blk w g t cs → t ≠ 120 → 5 ≠ t → ¬ (g = b ∨ bv.ownBlock = some g) := fun t g cs X h1 h2 e => e.elim (Blk.ne_ X h.D.B h1) (own_type_ne h.D.O X h2)
  have ho : Off w (fun q => q = b ∨ bv.ownBlock = some q) := fun q t cs X ht e => e.elim (Off.of_blk h.D.B (by decide) (by decide) (by decide) (by decide) q t cs X ht) (Off.of_own h.D.O (by decide) (by decide) (by decide) (by decide) q t cs X ht)
  exact ⟨rfl, bv', below_keeps h.B k h.B.size (fun q e => e.elim (fun e => by omega) (hbb q)), h.hP.kept k (hnot _ _ _ h.hP (by decide) (by decide)), h.hx, h.hb, h.R.kept k (fun g cur hg _ => hnot 115 g cur.toList (by unfold Blk; simpa using hg) (by decide) (by decide)), fun m v hv => (h.C m v hv).kept k ho, .inr rfl, D', h.M.write h.D k hn⟩
/-- What has been written behind i lines. -/
def txt : Nat → List UInt8
  | 0 => []
  | i + 1 => txt i ++ (out i ++ (⟨#[10]⟩ : ByteArray)).data.toList
theorem txt_len (i : Nat) (hi : i < 4) : (txt i).length + (out i ++ (⟨#[10]⟩ : ByteArray)).size ≤ 1000000 := by
  have : i = 0 ∨ i = 1 ∨ i = 2 ∨ i = 3 := by omega
  rcases this with rfl | rfl | rfl | rfl <;> decide +kernel
theorem txt_4 : (⟨(txt 4).toArray⟩ : ByteArray) = ⟨#[48, 10, 111, 107, 10, 48, 44, 48, 44, 45, 10, 53, 10]⟩ := by decide +kernel
end
end Aw
end Go.Proofs.YtbgiegecfapmlaaGreatDoor

namespace Go.Proofs.YtbgiegecfapmlaaGreatDoor
open Go.RowKit
set_option linter.unusedVariables false
set_option linter.unusedSimpArgs false
namespace Aw
open Rob (own_below own_block_lt ob_mem blk_below below_drew J own_base result fc iv Goods)
open Job (jc jv)
theorem rcell {w : World} {g off c : Nat} {rs : List Nat} (h : Has w 112 1 (.slice (some ⟨g, off, none⟩) 5 c) 5 (pv rs)) {m r : Nat} (hr : rs[m]? = some r) : w.cell? ⟨g, off + m, none⟩ = some (.pointer (some ⟨r, 0, none⟩)) := by
  obtain ⟨g2, off2, hA, hc⟩ := h.at_ (by decide)
  cases hA
  exact hc m _ (by unfold pv; rw [List.getElem?_map, hr]; rfl)
theorem Q.shape {m : Nat} {w : World} {P : Nat} {v : Value} (h : Q m w P v) : ∃ n caps, v = .func (.func n) #[] caps := by
  match m, h with
  | 0, ⟨_, _, e, _⟩ => exact ⟨_, _, e⟩
  | 1, ⟨_, e, _⟩ => exact ⟨_, _, e⟩
  | 2, ⟨_, _, e, _⟩ => exact ⟨_, _, e⟩
  | _ + 3, ⟨_, _, e, _⟩ => exact ⟨_, _, e⟩
theorem dcell {w : World} {g off c : Nat} {vs : List Value} (h : Has w 115 1 (.slice (some ⟨g, off, none⟩) 4 c) 4 vs) {m : Nat} {v : Value} (hr : vs[m]? = some v) : w.cell? ⟨g, off + m, none⟩ = some v := by
  obtain ⟨g2, off2, hA, hc⟩ := h.at_ (by decide)
  cases hA
  exact hc m _ hr
/-- Where all lines are kept and the machine is made. -/
theorem Lp.begin {w0 w w' : World} {P V x : Nat} {rs : List Nat} {rv av : Value} {ri : Nat} {vs : List Value} (h : Lp w0 P V rs rv ri 4 vs av w) (hp : w0.heap.size ≤ P) (hP : Blk w' P 173 [.pointer (some ⟨x, 0, none⟩)]) (hX : Blk w' x 69 (xc (.slice none 0 0) (.pointer none))) (hx : w.heap.size ≤ x) (k : Keeps (· = P) w w') :
    Pl w0 P w'.heap.size x av vs 0 (.pointer none) (.slice none 0 0) [] (w'.alloc (.cells #[.pointer none, .slice none 0 0] 120)) := by
  have ka := (Keeps.refl (fun _ => False) w').alloc (.cells #[.pointer none, .slice none 0 0] 120)
  have hB := below_keeps h.B k h.B.size (fun b e => by omega)
  have hR := ((Has.of_own h.O).kept k (fun g cur hg _ => own_ne (e := 115) h.hP (by decide) g cur hg)).kept ka (fun _ _ _ _ h => h)
  have ho : Off w (· = P) := Off.of_blk h.hP (by decide) (by decide) (by decide) (by decide)
  have hBs := h.B.size
  exact ⟨below_keeps hB ka hB.size (fun _ e => e.elim), hP.kept ka (fun h => h), by omega, hB.size, hR, fun m v hv => ((h.C m v hv).kept k ho).kept ka (Off.no _), .inl rfl, ⟨Blk.new w' 120 [.pointer none, .slice none 0 0], ⟨rfl, .inl ⟨rfl, rfl⟩⟩⟩, hX.kept ka (fun h => h)⟩
theorem Pl.isB {w0 w : World} {P b x i : Nat} {av p bv : Value} {vs : List Value} {l : List UInt8} (h : Pl w0 P b x av vs i p bv l w) : Lib.IsBuilder 120 5 w0.heap.size b (Lib.byteCells l) w := by
  have hne : bv.ownBlock ≠ some b := own_type_ne h.D.O h.D.B (by decide)
  have hO := h.D.O
  rw [← Lib.byteCells_length l] at hO
  rcases h.hp with e | e
  · subst e; exact .inl ⟨h.hb, bv, h.D.B, hO, hne⟩
  · subst e; exact .inr ⟨h.hb, bv, h.D.B, hO, hne⟩
theorem infoD' : (Tryz.prog.info? 115).map (fun i => (i.zero, i.size, i.bytes)) = some (some .nilFunc, 1, 8) := by kernel_rfl
theorem method_line (a : Addr) (w : World) : (method 524 171 (.pointer (some a)) "tocsin/script.line").run Tryz.prog w = .ok (231, .pointer (some a)) w := by kernel_rfl
set_option maxRecDepth 100000 in
set_option maxHeartbeats 8000000 in
theorem run_text (w : World) (T : Tabs w) : Calls Tryz.prog 20 #[.string T0] w fun e w' => e = .returned (.tuple #[.string ⟨(txt 4).toArray⟩, .int .i64 0]) ∧ Below w.heap.size w w' := by
  obtain ⟨i0, hI0, hz0, hz1, hz2⟩ := info_parts infoD'
  have CL := lines_is w T
  have hml := method_line
  have HT := Lib.hid T
  clear T
  go_enter Tryz.func20, Tryz.ntmps20
  go_upto_region 2 with (go_at_call 50; refine CL.mono ?_; rintro e w1 ⟨v, rs, rfl, hrl, hH, hR, hnd, hge, hob, b1⟩; obtain ⟨A, c, hv⟩ := hH.shape; subst hv; have HRL := Lib.hid hrl; have HH := Lib.hid hH; have HR := Lib.hid hR; have HND := Lib.hid hnd; have HGE := Lib.hid hge; have HB1 := Lib.hid b1; clear hrl hH hR hnd hge hob b1)
  obtain ⟨g, off, hA, hc⟩ := HH.out.at_ (by decide)
  have hcap : 5 ≤ c := by
    rcases HH.out.2 with ⟨_, h0⟩ | ⟨g', off', cap, cur, hv, hnc, _⟩
    · cases h0
    · injection hv with _ _ hc2; omega
  obtain ⟨r0, hr0⟩ : ∃ r, rs[0]? = some r := ⟨_, List.getElem?_eq_getElem (by have := HRL.out; omega)⟩
  subst hA
  have c0 := rcell HH.out hr0
  rw [Nat.add_zero] at c0
  obtain ⟨l0, hl0, hR0⟩ := HR.out 0 r0 hr0
  have e0 : l0 = L0 := (Option.some.inj hl0).symm
  subst e0
  have CW' := hR0
  rw [words0] at CW'
  have CW := way_is CW'
  have HR0 := Lib.hid hR0
  have HR00 := Lib.hid hr0
  clear CL hc hr0 hR0 hl0
  go_upto_region 7 with (go_at_call 51; refine CW.mono ?_; rintro e w2 ⟨P, V, rfl, hP, hV, hRe, hPs, hVs, k2⟩; have HP := Lib.hid hP; have HV := Lib.hid hV; have HRE := Lib.hid hRe; have HPS := Lib.hid hPs; have HVS := Lib.hid hVs; have HK2 := Lib.hid k2; clear hP hV hRe hPs hVs k2)
  obtain ⟨cs, hXr⟩ := HR0.out.cells
  have hH2 := HH.out.kept HK2.out (fun g cur hg _ => own_ne (e := 112) hXr (by decide) g cur hg)
  have HH2 := Lib.hid hH2
  have c02 := rcell hH2 HR00.out
  rw [Nat.add_zero] at c02
  have CE := whole_end HRE.out
  have hLp : Lp w P V rs (.slice (some ⟨g, off, none⟩) 5 c) 1 0 [] (.slice none 0 0) w2 := by
    have hge0 := HGE.out r0 (List.mem_of_getElem? HR00.out)
    refine ⟨below_keeps HB1.out HK2.out HB1.out.size (fun b e => by omega), HP.out, HV.out, hH2, ?_, rfl, ⟨by simp, .inl ⟨rfl, rfl⟩⟩, fun m v hv => by simp at hv⟩
    intro m r hm hr
    obtain ⟨l, hl, hR⟩ := HR.out m r hr
    refine ⟨l, hl, hR.kept HK2.out (fun e => ?_) (own_ne hXr (by decide))⟩
    subst e
    have := (List.getElem?_inj (List.getElem?_eq_some_iff.1 hr).1 HND.out).1 (hr.trans HR00.out.symm)
    omega
  have HLP := Lib.hid hLp
  have HPW := Lib.hid (show w.heap.size ≤ P ∧ P < w2.heap.size from ⟨Nat.le_trans HB1.out.size HPS.out, HP.out.lt⟩)
  have hc1 : ¬ (c : Int) = 1 := by omega
  have hc2 : (5 : Int) ≤ (c : Int) := by omega
  have hc3 : ¬ c = 1 := by omega
  clear hLp hH2 hXr HH HH2 HR HR0 HRE HPS HVS HP HV HK2 HB1 c0 CW CW' HRL
  go_wp2_with (go_at_call 52; refine CE.mono ?_; rintro e w3 ⟨rfl, rfl⟩)
  go_loopw [8, 43] (fun av i wr => ∃ (k : Nat) (vs : List Value), k ≤ 4 ∧ i = .int .i64 (k : Int) ∧ Lp w P V rs (.slice (some ⟨g, off, none⟩) 5 c) (k + 1) k vs av wr) (fun _ i _ => 4 - (intOf i).toNat)
  case atStart => exact ⟨0, [], by omega, rfl, HLP.out⟩
  case round =>
    clear HLP CE c02
    obtain ⟨k, vs, hk, hi, h⟩ := hrel
    subst hi
    obtain ⟨AS, cS, hv⟩ := own_shape h.O
    subst hv
    by_cases hk4 : k < 4
    · have hlt : (k : Int) < 4 := by omega
      have hk0 : (0 : Int) ≤ (k : Int) := by omega
      have hk1 : (k : Int) + 1 ≤ 9223372036854775807 := by omega
      obtain ⟨r, hr⟩ : ∃ r, rs[k + 1]? = some r := by
        have : k + 1 < rs.length := by
          rcases Nat.lt_or_ge (k + 1) rs.length with h' | h'
          · exact h'
          · have := h.R.1
            rw [pv_len] at this
            omega
        exact ⟨_, List.getElem?_eq_getElem this⟩
      have ck : wr.cell? ⟨g, off + 1 + k, none⟩ = some (.pointer (some ⟨r, 0, none⟩)) := by
        have := rcell h.R hr
        rwa [show off + (k + 1) = off + 1 + k by omega] at this
      obtain ⟨l, hl, hRd⟩ := h.L (k + 1) r (Nat.le_refl _) hr
      have CX := line_any (P := P) hk4 hl hRd
      have hge := HGE.out r (List.mem_of_getElem? hr)
      have HLP := Lib.hid h
      have HRD := Lib.hid hRd
      have HR1 := Lib.hid hr
      have HGR := Lib.hid hge
      clear h hRd hr hge hl
      go_upto_region 13 with fail
      go_upto_region 14 with fail
      refine CX.mono ?_
      rintro e w4 ⟨v, rfl, hq, hRe, k4⟩
      obtain ⟨fn, caps, hv⟩ := hq.shape
      subst hv
      have h4 := HLP.out.read HR1.out HRD.out HND.out HGR.out k4
      have O5 := own_below h4.O ((Below.refl w4.heap.size w4).alloc (Nat.le_refl _) (.cells #[.func (.func fn) #[] caps] 115))
      have hsz5 : w.heap.size ≤ (w4.alloc (.cells #[.func (.func fn) #[] caps] 115)).heap.size := (by have := h4.B.size; simp; omega)
      have H4 := Lib.hid h4
      have HQ := Lib.hid hq
      have HRE := Lib.hid hRe
      clear h4 hq hRe k4 HLP HRD HR1 HGR CX ck
      go_upto_region 14 with (at_builtin; refine wpList_append_has rfl (.tmp 47) (.tmp 51) 113 rfl i0 _ 8 Tryz.underlying113 hI0 hz0 hz1 hz2 rfl (by decide) rfl O5 (some ⟨w4.heap.size, 0, none⟩) 1 1 [.func (.func fn) #[] caps] rfl (Has.box w4 115 1 1 [.func (.func fn) #[] caps] rfl (by unfold maxLen; omega)) (fun u hu => by rw [List.mem_singleton.1 hu]; rfl) (by unfold maxLen; omega) (by omega) hsz5 ?_; intro v6 w6 own6 g6 at6; obtain ⟨A6, c6, hv6⟩ := own_shape own6; subst hv6; have OWN6 := Lib.hid own6; have KG := Lib.hid (keeps_grown (w0 := w4) (S := fun b => (Value.slice AS k cS).ownBlock = some b) ((Keeps.refl _ w4).alloc (.cells #[.func (.func fn) #[] caps] 115)) g6 (fun g hg => .inl hg)); clear own6 g6 at6 O5 hsz5)
      have h6 := H4.out.app HQ.out OWN6.out KG.out
      have hRe6 : Rd w6 r [] := by
        obtain ⟨cs, hX⟩ := HRE.out.cells
        exact HRE.out.kept KG.out (own_type_ne H4.out.O hX (by decide)) (own_off H4.out.O (by decide))
      have CE := whole_end hRe6
      have H6 := Lib.hid h6
      clear h6 hRe6 H4 HQ HRE OWN6 KG
      go_wp2_with (go_at_call 52; refine CE.mono ?_; rintro e w7 ⟨rfl, rfl⟩)
      go_roundw
      case rel => exact ⟨k + 1, _, by omega, by simp, H6.out⟩
      case measure => simp [intOf]; omega
    · have hlt : ¬ (k : Int) < 4 := by omega
      have hk4 : k = 4 := by omega
      subst hk4
      have CB := way2_is h.hP h.hV
      have HLP := Lib.hid h
      clear h hk
      go_upto_region 21 with (first | (go_at_call 93; refine CB.mono ?_; rintro e w8 ⟨rfl, x, hP8, hX8, hx8, k8⟩; have HP8 := Lib.hid hP8; have HX8 := Lib.hid hX8; have HXX := Lib.hid hx8; have HK8 := Lib.hid k8; clear hP8 hX8 hx8 k8))
      have hPl := HLP.out.begin HPW.out.1 HP8.out HX8.out HXX.out HK8.out
      have hvl := HLP.out.n
      obtain ⟨g1, o1, hA1, _⟩ := hPl.R.at_ (by decide)
      subst hA1
      have HPL := Lib.hid hPl
      have HVL := Lib.hid hvl
      clear hPl hvl HLP HP8 HX8 HXX HK8 CB
      generalize w8.alloc (.cells #[.pointer none, .slice none 0 0] 120) = w9 at *
      generalize w8.heap.size = b at *
      go_wp2_with fail
      go_loopw [64] (fun i wr => ∃ (k : Nat) (p bv : Value), k ≤ 4 ∧ i = .int .i64 (k : Int) ∧ Pl w P b x (.slice (some ⟨g1, o1, none⟩) 4 cS) vs k p bv (txt k) wr) (fun i _ => 4 - (intOf i).toNat)
      case atStart => exact ⟨0, _, _, by omega, rfl, HPL.out⟩
      case round =>
        clear HPL
        obtain ⟨k, p, bv, hk, hi, h⟩ := hrel
        subst hi
        by_cases hk4 : k < 4
        · have : k = 0 ∨ k = 1 ∨ k = 2 ∨ k = 3 := by omega
          rcases this with rfl | rfl | rfl | rfl
          · obtain ⟨v, hv0⟩ : ∃ v, vs[0]? = some v := ⟨_, List.getElem?_eq_getElem (by have := HVL.out; omega)⟩
            have ck : wr.cell? ⟨g1, o1, none⟩ = some v := dcell h.R hv0
            obtain ⟨Bx, Jb, hv, C⟩ := step0 HT.out h hv0
            subst hv
            have HC := Lib.hid C
            clear C h hv0 hk hk4
            go_wp2_with (first | (go_at_call 233; refine HC.out.mono ?_; rintro e w2 ⟨rfl, h2⟩; have CW := h2.write (out 0 ++ ⟨#[10]⟩) (txt_len 0 (by decide)); clear h2) | (go_at_call 54; refine CW.mono ?_; rintro e w3 ⟨rfl, bv', h3⟩; have H3 := Lib.hid h3; clear h3))
            go_roundw
            case rel => exact ⟨1, _, bv', by omega, rfl, H3.out⟩
            case measure => simp [intOf]
          · obtain ⟨v, hv0⟩ : ∃ v, vs[1]? = some v := ⟨_, List.getElem?_eq_getElem (by have := HVL.out; omega)⟩
            have ck : wr.cell? ⟨g1, o1 + 1, none⟩ = some v := dcell h.R hv0
            obtain ⟨Bx, hv, C⟩ := step1 HT.out h hv0
            subst hv
            have HC := Lib.hid C
            clear C h hv0 hk hk4
            go_wp2_with (first | (go_at_call 237; refine HC.out.mono ?_; rintro e w2 ⟨rfl, h2⟩; have CW := h2.write (out 1 ++ ⟨#[10]⟩) (txt_len 1 (by decide)); clear h2) | (go_at_call 54; refine CW.mono ?_; rintro e w3 ⟨rfl, bv', h3⟩; have H3 := Lib.hid h3; clear h3))
            go_roundw
            case rel => exact ⟨2, _, bv', by omega, rfl, H3.out⟩
            case measure => simp [intOf]
          · obtain ⟨v, hv0⟩ : ∃ v, vs[2]? = some v := ⟨_, List.getElem?_eq_getElem (by have := HVL.out; omega)⟩
            have ck : wr.cell? ⟨g1, o1 + 2, none⟩ = some v := dcell h.R hv0
            obtain ⟨Bx, Nb, hv, C⟩ := step2 h hv0
            subst hv
            have HC := Lib.hid C
            clear C h hv0 hk hk4
            go_wp2_with (first | (go_at_call 238; refine HC.out.mono ?_; rintro e w2 ⟨rfl, h2⟩; have CW := h2.write (out 2 ++ ⟨#[10]⟩) (txt_len 2 (by decide)); clear h2) | (go_at_call 54; refine CW.mono ?_; rintro e w3 ⟨rfl, bv', h3⟩; have H3 := Lib.hid h3; clear h3))
            go_roundw
            case rel => exact ⟨3, _, bv', by omega, rfl, H3.out⟩
            case measure => simp [intOf]
          · obtain ⟨v, hv0⟩ : ∃ v, vs[3]? = some v := ⟨_, List.getElem?_eq_getElem (by have := HVL.out; omega)⟩
            have ck : wr.cell? ⟨g1, o1 + 3, none⟩ = some v := dcell h.R hv0
            obtain ⟨Bx, Sb, hv, C⟩ := step3 h hv0
            subst hv
            have HC := Lib.hid C
            clear C h hv0 hk hk4
            go_wp2_with (first | (go_at_call 248; refine HC.out.mono ?_; rintro e w2 ⟨rfl, h2⟩; have CW := h2.write (out 3 ++ ⟨#[10]⟩) (txt_len 3 (by decide)); clear h2) | (go_at_call 54; refine CW.mono ?_; rintro e w3 ⟨rfl, bv', h3⟩; have H3 := Lib.hid h3; clear h3))
            go_roundw
            case rel => exact ⟨4, _, bv', by omega, rfl, H3.out⟩
            case measure => simp [intOf]
        · have hlt : ¬ (k : Int) < 4 := by omega
          have hk4 : k = 4 := by omega
          subst hk4
          have CS := Tryz.Builder_String_any w.heap.size b (txt 4) wr h.isB h.B.size
          have HB := Lib.hid h.B
          clear h hk
          go_wp2_with (go_at_call 55; refine CS.mono ?_; rintro e w2 ⟨rfl, b2⟩)
          refine bodyPost_ret (v := .tuple #[.string ⟨(txt 4).toArray⟩, .int .i64 0]) (by simp [results, Tryz.results20, go_sem]) rfl ?_
          exact ⟨rfl, HB.out.trans b2⟩
end Aw
end Go.Proofs.YtbgiegecfapmlaaGreatDoor

namespace Go.Proofs.YtbgiegecfapmlaaGreatDoor
open Go.RowKit
set_option linter.unusedVariables false
set_option linter.unusedSimpArgs false
namespace Aw
set_option maxRecDepth 100000 in
set_option maxHeartbeats 4000000 in
theorem awake_is (w : World) (T : Tabs w) : Calls Tryz.prog 7 #[] w fun e w' => e = .returned (.bool true) ∧ Below w.heap.size w w' := by
  have C := run_text w T
  rw [txt_4] at C
  have HC := Lib.hid C
  clear T C
  go_enter Tryz.func7, Tryz.ntmps7
  go_wp2_with (go_at_call 20; refine HC.out.mono ?_; rintro e w2 ⟨rfl, b2⟩)
  go_ret
  exact ⟨rfl, b2⟩
end Aw
end Go.Proofs.YtbgiegecfapmlaaGreatDoor

namespace Go.Proofs.YtbgiegecfapmlaaGreatDoor
open Go.RowKit Go.ChangeShapes Go.WideShapes Go.ChangeAt Go.Deep
set_option linter.unusedVariables false
set_option linter.unusedSimpArgs false
namespace Job
open Rob (J)
set_option maxRecDepth 100000
section
variable {H : Type} {enc : TypeId × Value → H} {w : World} {base : Nat} {spare : Nat → Bool} {held : Bool}
theorem el_job : ∀ m cs' y, DataW.trod enc Tryz.prog w base spare held m 36 cs' = some y → ∃ x : J, cs' = jc x := fun m cs' y h => by
  obtain ⟨ys, n, _, _, hlen, hyl, hf⟩ := DataW.trod_struct Tryz.underlying36 h
  have hl : cs'.length = 8 := hlen.trans (by kernel_rfl)
  have hc : Tryz.prog.cellsOf 3 = 1 := by kernel_rfl
  have hc2 : Tryz.prog.cellsOf 9 = 1 := by kernel_rfl
  have hc3 : Tryz.prog.cellsOf 4 = 1 := by kernel_rfl
  obtain ⟨c0, c1, c2, c3, c4, c5, c6, c7, rfl⟩ : ∃ a b c d e f g h, cs' = [a, b, c, d, e, f, g, h] := by
    match cs', hl with
    | [a, b, c, d, e, f, g, h], _ => exact ⟨a, b, c, d, e, f, g, h, rfl⟩
  clear hlen hl h
  obtain ⟨y0, h0⟩ : ∃ y0, ys[0]? = some y0 := ⟨_, List.getElem?_eq_getElem (by rw [hyl]; decide)⟩
  obtain ⟨y1, h1⟩ : ∃ y1, ys[1]? = some y1 := ⟨_, List.getElem?_eq_getElem (by rw [hyl]; decide)⟩
  obtain ⟨y2, h2⟩ : ∃ y2, ys[2]? = some y2 := ⟨_, List.getElem?_eq_getElem (by rw [hyl]; decide)⟩
  obtain ⟨y3, h3⟩ : ∃ y3, ys[3]? = some y3 := ⟨_, List.getElem?_eq_getElem (by rw [hyl]; decide)⟩
  obtain ⟨y4, h4⟩ : ∃ y4, ys[4]? = some y4 := ⟨_, List.getElem?_eq_getElem (by rw [hyl]; decide)⟩
  obtain ⟨y5, h5⟩ : ∃ y5, ys[5]? = some y5 := ⟨_, List.getElem?_eq_getElem (by rw [hyl]; decide)⟩
  obtain ⟨y6, h6⟩ : ∃ y6, ys[6]? = some y6 := ⟨_, List.getElem?_eq_getElem (by rw [hyl]; decide)⟩
  obtain ⟨y7, h7⟩ : ∃ y7, ys[7]? = some y7 := ⟨_, List.getElem?_eq_getElem (by rw [hyl]; decide)⟩
  have g0 : DataW.trod enc Tryz.prog w base spare held n 9 (([c0, c1, c2, c3, c4, c5, c6, c7].drop 0).take (Tryz.prog.cellsOf 9)) = some y0 := (hf 0 _ rfl).trans h0
  have g1 : DataW.trod enc Tryz.prog w base spare held n 3 (([c0, c1, c2, c3, c4, c5, c6, c7].drop 1).take (Tryz.prog.cellsOf 3)) = some y1 := (hf 1 _ rfl).trans h1
  have g2 : DataW.trod enc Tryz.prog w base spare held n 3 (([c0, c1, c2, c3, c4, c5, c6, c7].drop 2).take (Tryz.prog.cellsOf 3)) = some y2 := (hf 2 _ rfl).trans h2
  have g3 : DataW.trod enc Tryz.prog w base spare held n 3 (([c0, c1, c2, c3, c4, c5, c6, c7].drop 3).take (Tryz.prog.cellsOf 3)) = some y3 := (hf 3 _ rfl).trans h3
  have g4 : DataW.trod enc Tryz.prog w base spare held n 3 (([c0, c1, c2, c3, c4, c5, c6, c7].drop 4).take (Tryz.prog.cellsOf 3)) = some y4 := (hf 4 _ rfl).trans h4
  have g5 : DataW.trod enc Tryz.prog w base spare held n 3 (([c0, c1, c2, c3, c4, c5, c6, c7].drop 5).take (Tryz.prog.cellsOf 3)) = some y5 := (hf 5 _ rfl).trans h5
  have g6 : DataW.trod enc Tryz.prog w base spare held n 3 (([c0, c1, c2, c3, c4, c5, c6, c7].drop 6).take (Tryz.prog.cellsOf 3)) = some y6 := (hf 6 _ rfl).trans h6
  have g7 : DataW.trod enc Tryz.prog w base spare held n 4 (([c0, c1, c2, c3, c4, c5, c6, c7].drop 7).take (Tryz.prog.cellsOf 4)) = some y7 := (hf 7 _ rfl).trans h7
  rw [hc2] at g0
  rw [hc] at g1 g2 g3 g4 g5 g6
  rw [hc3] at g7
  obtain ⟨x0, e0, _⟩ := DataW.trod_string Tryz.underlying9 g0
  obtain ⟨x1, e1, _⟩ := DataW.trod_int Tryz.underlying3 g1
  obtain ⟨x2, e2, _⟩ := DataW.trod_int Tryz.underlying3 g2
  obtain ⟨x3, e3, _⟩ := DataW.trod_int Tryz.underlying3 g3
  obtain ⟨x4, e4, _⟩ := DataW.trod_int Tryz.underlying3 g4
  obtain ⟨x5, e5, _⟩ := DataW.trod_int Tryz.underlying3 g5
  obtain ⟨x6, e6, _⟩ := DataW.trod_int Tryz.underlying3 g6
  obtain ⟨x7, e7, _⟩ := DataW.trod_bool Tryz.underlying4 g7
  simp at e0 e1 e2 e3 e4 e5 e6 e7
  subst e0 e1 e2 e3 e4 e5 e6 e7
  exact ⟨⟨x0, x1, x2, x3, x4, x5, x6, x7⟩, rfl⟩
end
/-- What tocsintop asks of jobs, whatever their names' lengths. -/
theorem fine_any {w : World} {A : Option Addr} {n c : Nat} {js : List J} (T : Tabs w) (R : Row jc 8 w A n js) :
    Calls Tryz.prog 8 #[.slice A n c] w fun en w' => en = .returned (.bool (fine js)) ∧ Below w.heap.size w w' := by
  by_cases hh : heavy js 12 300 = true
  · have D := heavy_is (c := c) R 12 300
    rw [hh] at D
    have hf : fine js = false := by unfold fine; rw [hh]; rfl
    rw [hf]
    have HD := Lib.hid D
    clear D R T hh hf
    go_enter Tryz.func8, Tryz.ntmps8
    go_wp2_with (go_at_call 21; refine HD.out.mono ?_; rintro e w2 ⟨rfl, rfl⟩)
    go_ret
    exact ⟨rfl, Below.refl _ _⟩
  · refine fine_is T R fun x hx => ?_
    have h2 : heavy js 12 300 = false := by simpa using hh
    unfold heavy at h2
    simp only [Bool.or_eq_false_iff, List.any_eq_false] at h2
    have := h2.2 x hx
    unfold heavy1 at this
    simp at this
    omega
end Job
end Go.Proofs.YtbgiegecfapmlaaGreatDoor

namespace Go.Proofs.YtbgiegecfapmlaaGreatDoor
open Go.RowKit
set_option linter.unusedVariables false
set_option linter.unusedSimpArgs false
namespace Aw
open Rob (own_below own_block_lt ob_mem blk_below below_drew J own_base result fc iv Goods Firm kdAt dlAt)
open Job (jc jv)
/-- The job, firm. -/
def soft (x : J) : J := { x with hard := false }
def softs (js : List J) : List J := js.map soft
theorem soft_good (x : J) : Job.good (soft x) = Job.good x := rfl
theorem softs_len (js : List J) : (softs js).length = js.length := by unfold softs; simp
theorem softs_all {js : List J} (h : Job.all js = true) : Job.all (softs js) = true := by
  unfold Job.all at *
  rw [softs_len]
  simp only [Bool.and_eq_true] at *
  refine ⟨h.1, ?_⟩
  unfold softs
  rw [List.all_map]
  exact h.2
theorem fine_all {js : List J} (h : Job.fine js = true) : js.length ≤ 12 ∧ Job.all js = true ∧ ∀ x ∈ js, x.nm.size ≤ 100 := by
  unfold Job.fine at h
  simp only [Bool.and_eq_true, Bool.not_eq_true'] at h
  obtain ⟨h1, h2⟩ := h
  unfold Job.heavy at h1
  simp only [Bool.or_eq_false_iff, decide_eq_false_iff_not, List.any_eq_false] at h1
  refine ⟨by have := h1.1; omega, h2, fun x hx => ?_⟩
  have := h1.2 x hx
  unfold Job.heavy1 at this
  simp at this
  omega
theorem goods_softs {js : List J} (h : Job.all js = true) (hn : ∀ x ∈ js, x.nm.size ≤ 100) : Goods (softs js) := by
  intro y hy
  obtain ⟨x, hx, rfl⟩ := List.mem_map.1 hy
  unfold Job.all at h
  simp only [Bool.and_eq_true, List.all_eq_true] at h
  exact ⟨h.2 x hx, by have := hn x hx; show x.nm.size < _; omega⟩
theorem firm_softs {js : List J} (h : Job.all js = true) (hn : ∀ x ∈ js, x.nm.size ≤ 100) : Firm (softs js) := by
  refine ⟨fun y hy => Job.good_ok (goods_softs h hn y hy).1, fun y hy => ?_⟩
  obtain ⟨x, hx, rfl⟩ := List.mem_map.1 hy
  rfl
theorem endTo_ge (js : List J) : ∀ n i, i < n → dlAt js i ≤ Job.endTo js n := by
  intro n
  induction n with
  | zero => intro i hi; omega
  | succ n ih =>
    intro i hi
    simp only [Job.endTo]
    by_cases h : i = n
    · subst h
      show dlAt js i ≤ _
      unfold dlAt
      split <;> omega
    · have := ih i (by omega)
      split <;> omega
theorem dl_end {js : List J} (h : Job.all js = true) (hg : Goods js) : ∀ i, i < js.length → dlAt js i ≤ ((Job.eend js).toNat : Int) := by
  intro i hi
  have h1 := endTo_ge js js.length i hi
  have h2 := Rob.eend_bd hg
  have h3 : Job.eend js = Job.endTo js js.length := by unfold Job.eend; rw [if_pos h]
  rw [h3] at h2 ⊢
  omega
set_option maxRecDepth 100000 in
set_option maxHeartbeats 8000000 in
theorem firm_is {w : World} {A : Option Addr} {c : Nat} {js : List J} (T : Tabs w) (R : Row jc 8 w A js.length js) :
    Calls Tryz.prog 4 #[.slice A js.length c] w fun e w' => e = .returned (.bool true) ∧ Below w.heap.size w w' := by
  obtain ⟨i0, hI0, hz0, hz1, hz2⟩ := Rob.infoJ
  have CA := awake_is w T
  have hmx := R.2.1
  have HT := Lib.hid T
  have HR := Lib.hid R
  have HMX := Lib.hid hmx
  clear T R hmx
  go_enter Tryz.func4, Tryz.ntmps4
  go_upto_region 3 with (go_at_call 7; refine CA.mono ?_; rintro e w1 ⟨rfl, b1⟩)
  have CG := Job.fine_any (c := c) (HT.out.below b1) (Row.below HR.out b1)
  have HB1 := Lib.hid b1
  clear CA b1
  by_cases hf : Job.fine js = true
  · rw [hf] at CG
    obtain ⟨hn, hall, hnm⟩ := fine_all hf
    have hg := goods_softs hall hnm
    have hF := firm_softs hall hnm
    have hall2 := softs_all hall
    have HG := Lib.hid hg
    have HF := Lib.hid hF
    have HA2 := Lib.hid hall2
    have HN := Lib.hid hn
    clear hf hg hF hall2 hn hall hnm
    go_upto_region 6 with (go_at_call 8; refine CG.mono ?_; rintro e w2 ⟨rfl, b2⟩)
    have hB2 := HB1.out.trans (b2.mono HB1.out.size)
    have HB2 := Lib.hid hB2
    clear hB2 b2 HB1 CG
    go_wp2_with fail
    go_loopw [3, 4] (fun v i wr => ∃ k : Nat, k ≤ js.length ∧ i = .int .i64 (k : Int) ∧ Below w.heap.size w wr ∧ wr.ownsRow w.heap.size 36 8 v k ((softs (js.take k)).flatMap jc)) (fun _ i _ => js.length - (intOf i).toNat)
    case atStart => exact ⟨0, by omega, rfl, HB2.out, ⟨by simp [softs], .inl ⟨rfl, rfl⟩⟩⟩
    case round =>
      clear HB2
      obtain ⟨k, hk, hi, B, O⟩ := hrel
      subst hi
      obtain ⟨AS, cS, hv⟩ := own_shape O
      subst hv
      by_cases hkn : k < js.length
      · have hlt : (k : Int) < (js.length : Int) := by omega
        have hk0 : (0 : Int) ≤ (k : Int) := by omega
        have hk1 : (k : Int) + 1 ≤ 9223372036854775807 := by have := HN.out; omega
        have hr := Row.below HR.out B
        obtain ⟨b, off, x, hA, hx, hb, c0, c1, c2, c3, c4, c5, c6, c7⟩ := Job.cells8 hr hkn
        subst hA
        have XB : Blk (wr.alloc (.cells #[.string x.nm, .int .i64 x.rel, .int .i64 x.dl, .int .i64 x.bud, .int .i64 x.act, .int .i64 x.val, .int .i64 x.cln, .bool x.hard] 36)) wr.heap.size 36 (jc x) := Blk.new wr 36 (jc x)
        have ba := (Below.refl wr.heap.size wr).alloc (Nat.le_refl _) (.cells #[.string x.nm, .int .i64 x.rel, .int .i64 x.dl, .int .i64 x.bud, .int .i64 x.act, .int .i64 x.val, .int .i64 x.cln, .bool x.hard] 36)
        have B3 := B.trans (ba.mono B.size)
        have O3 := own_below O ba
        have hge : w.heap.size ≤ wr.heap.size := B.size
        have hOX : (Value.slice AS k cS).ownBlock ≠ some wr.heap.size := fun e => by have := (own_block_lt O _ (ob_mem.2 e)).2; omega
        have HXB := Lib.hid XB
        have HB3 := Lib.hid B3
        have HO3 := Lib.hid O3
        have HGE := Lib.hid hge
        have HOX := Lib.hid hOX
        have HX := Lib.hid hx
        clear XB ba B3 O3 hge hOX hx B O hr hb
        go_upto_region 10 with fail
        generalize wr.alloc (.cells #[.string x.nm, .int .i64 x.rel, .int .i64 x.dl, .int .i64 x.bud, .int .i64 x.act, .int .i64 x.val, .int .i64 x.cln, .bool x.hard] 36) = w3 at *
        generalize wr.heap.size = X at *
        clear c0 c1 c2 c3 c4 c5 c6 c7
        have f3 := HXB.out.frozen
        have s3 : w3.cell? ⟨X, 7, none⟩ = some (.bool x.hard) := HXB.out.cellAt (i := 7) rfl
        go_upto_region 11 with fail
        have kk := (keep1 X w3).setCell ⟨X, 7, none⟩ (.inl rfl) (.bool false)
        have X4 : Blk (w3.setCell ⟨X, 7, none⟩ (.bool false)) X 36 (jc (soft x)) := HXB.out.set_ 7 (.bool false)
        have O4 := own_kept HO3.out kk (fun g cur _ hg e => HOX.out (e ▸ hg))
        have B4 := below_keeps HB3.out kk HB3.out.size (fun b e => by have := HGE.out; omega)
        have x0 : (w3.setCell ⟨X, 7, none⟩ (.bool false)).cell? ⟨X, 0, none⟩ = some (.string x.nm) := X4.cellAt (i := 0) rfl
        have x1 : (w3.setCell ⟨X, 7, none⟩ (.bool false)).cell? ⟨X, 1, none⟩ = some (.int .i64 x.rel) := X4.cellAt (i := 1) rfl
        have x2 : (w3.setCell ⟨X, 7, none⟩ (.bool false)).cell? ⟨X, 2, none⟩ = some (.int .i64 x.dl) := X4.cellAt (i := 2) rfl
        have x3 : (w3.setCell ⟨X, 7, none⟩ (.bool false)).cell? ⟨X, 3, none⟩ = some (.int .i64 x.bud) := X4.cellAt (i := 3) rfl
        have x4 : (w3.setCell ⟨X, 7, none⟩ (.bool false)).cell? ⟨X, 4, none⟩ = some (.int .i64 x.act) := X4.cellAt (i := 4) rfl
        have x5 : (w3.setCell ⟨X, 7, none⟩ (.bool false)).cell? ⟨X, 5, none⟩ = some (.int .i64 x.val) := X4.cellAt (i := 5) rfl
        have x6 : (w3.setCell ⟨X, 7, none⟩ (.bool false)).cell? ⟨X, 6, none⟩ = some (.int .i64 x.cln) := X4.cellAt (i := 6) rfl
        have x7 : (w3.setCell ⟨X, 7, none⟩ (.bool false)).cell? ⟨X, 7, none⟩ = some (.bool false) := X4.cellAt (i := 7) rfl
        have HB4 := Lib.hid B4
        have HO4 := Lib.hid O4
        clear f3 s3 kk X4 O4 B4 HXB HB3 HO3
        generalize w3.setCell ⟨X, 7, none⟩ (.bool false) = w4 at *
        have O5 := own_below HO4.out ((Below.refl w4.heap.size w4).alloc (Nat.le_refl _) (.cells #[.string x.nm, .int .i64 x.rel, .int .i64 x.dl, .int .i64 x.bud, .int .i64 x.act, .int .i64 x.val, .int .i64 x.cln, .bool false] 36))
        have hsz5 : w.heap.size ≤ (w4.alloc (.cells #[.string x.nm, .int .i64 x.rel, .int .i64 x.dl, .int .i64 x.bud, .int .i64 x.act, .int .i64 x.val, .int .i64 x.cln, .bool false] 36)).heap.size := by have := HB4.out.size; simp; omega
        have hnext : (softs (js.take (k + 1))).flatMap jc = (softs (js.take k)).flatMap jc ++ jc (soft x) := by rw [take_next HX.out]; simp [softs]
        have HNX := Lib.hid hnext
        have HGO := Lib.hid (own_block_lt HO4.out)
        clear hnext
        go_wp2_with (at_builtin; refine wpList_append_has rfl (.tmp 26) (.tmp 28) 22 rfl i0 _ 72 Tryz.underlying22 hI0 hz0 hz1 hz2 rfl (by decide) rfl O5 (some ⟨w4.heap.size, 0, none⟩) 1 1 [.string x.nm, .int .i64 x.rel, .int .i64 x.dl, .int .i64 x.bud, .int .i64 x.act, .int .i64 x.val, .int .i64 x.cln, .bool false] rfl (Has.box w4 36 8 1 [.string x.nm, .int .i64 x.rel, .int .i64 x.dl, .int .i64 x.bud, .int .i64 x.act, .int .i64 x.val, .int .i64 x.cln, .bool false] rfl (by unfold maxLen; omega)) (Rob.jc_one (soft x)) (by have := HN.out; unfold maxLen; omega) (by have := HN.out; omega) hsz5 ?_; intro v6 w6 own6 g6 at6; obtain ⟨A6, c6, hv6⟩ := own_shape own6; subst hv6; have OWN6 := Lib.hid own6; have KG := Lib.hid (keeps_grown (w0 := w) (S := fun _ => False) (Keeps.of_below (HB4.out.alloc HB4.out.size (.cells #[.string x.nm, .int .i64 x.rel, .int .i64 x.dl, .int .i64 x.bud, .int .i64 x.act, .int .i64 x.val, .int .i64 x.cln, .bool false] 36))) g6 (fun g hg => .inr (HGO.out g (ob_mem.2 hg)).1)); clear own6 g6 at6)
        go_roundw
        case rel => exact ⟨k + 1, by omega, by simp, KG.out.below (fun _ _ h => h), by rw [HNX.out]; exact OWN6.out⟩
        case measure => simp [intOf]; omega
      · have hlt : ¬ (k : Int) < (js.length : Int) := by omega
        have hkn2 : k = js.length := by omega
        subst hkn2
        rw [List.take_length] at O
        have O2 : wr.ownsRow w.heap.size 36 8 (.slice AS (softs js).length cS) (softs js).length ((softs js).flatMap jc) := by rw [softs_len]; exact O
        have RR := Rob.Row.of_own Rob.jc_len O2 rfl (by rw [softs_len]; have := HN.out; unfold maxLen; omega)
        have CR := Rob.run_all (c := cS) (HT.out.below B) RR (own_addr O2) HG.out HA2.out (by rw [softs_len]; exact HN.out)
        have hRF := Rob.result_firm HF.out (Job.eend (softs js)).toNat (dl_end HA2.out HG.out)
        rw [softs_len] at CR hRF
        generalize Rob.result (softs js) (Job.eend (softs js)).toNat = s at CR hRF
        have HRF := Lib.hid hRF
        have HB := Lib.hid B
        have HCR := Lib.hid CR
        clear O O2 RR CR hRF B hk hkn hlt
        go_upto_region 13 with (go_at_call 16; refine HCR.out.mono ?_; rintro e w5 ⟨tv, gf, A2, n2, c2, A3, n3, c3, rfl, hT, hF, hgf, hfl, b5⟩; obtain ⟨At, ct, et⟩ := own_shape hT; subst et; have HF5 := Lib.hid hF; have HB5 := Lib.hid b5; have HGF := Lib.hid hgf; clear hT hF hgf hfl b5)
        have XO := Blk.new w5 49 [.slice At s.tr.length ct, .slice (some ⟨gf, 0, none⟩) js.length js.length, .slice A2 n2 c2, .slice A3 n3 c3]
        have ka := (Keeps.refl (fun _ => False) w5).alloc (.cells #[.slice At s.tr.length ct, .slice (some ⟨gf, 0, none⟩) js.length js.length, .slice A2 n2 c2, .slice A3 n3 c3] 49)
        have HF6 := Lib.hid (HF5.out.kept ka (fun h => h))
        have HB6 := Lib.hid ((HB.out.trans (HB5.out.mono HB.out.size)).trans ((ka.below (fun _ _ h => h)).mono (Nat.le_trans HB.out.size HB5.out.size)))
        have o1 := XO.cellAt (i := 1) rfl
        simp only [List.toArray] at o1
        clear XO ka HF5 HB5 HCR HB
        generalize w5.alloc (.cells #[.slice At s.tr.length ct, .slice (some ⟨gf, 0, none⟩) js.length js.length, .slice A2 n2 c2, .slice A3 n3 c3] 49) = w6 at *
        generalize w5.heap.size = Bo at *
        go_wp2_with fail
        go_loopw [8] (fun i wx => ∃ k : Nat, k ≤ js.length ∧ i = .int .i64 (k : Int) ∧ wx = w6) (fun i _ => js.length - (intOf i).toNat)
        case atStart => exact ⟨0, by omega, rfl, rfl⟩
        case round =>
          obtain ⟨k, hk, hi, rfl⟩ := hrel
          subst hi
          by_cases hkn : k < js.length
          · have hlt : (k : Int) < (js.length : Int) := by omega
            have hk0 : (0 : Int) ≤ (k : Int) := by omega
            have hk1 : (k : Int) + 1 ≤ 9223372036854775807 := by have := HN.out; omega
            obtain ⟨f, hf⟩ : ∃ f, s.fs[k]? = some f := ⟨_, List.getElem?_eq_getElem (by rw [HRF.out.1]; exact hkn)⟩
            have d0 := HF6.out.cellAt (flat_at Rob.fc_len hf (j := 0) rfl)
            rw [Nat.add_zero] at d0
            have hkd := HRF.out.2 k hkn
            have e1 : kdAt s k = f.1 := by unfold Rob.kdAt; rw [List.getD_eq_getElem?_getD, hf]; rfl
            rw [e1] at hkd
            have hcs : f.1 = 1 ∨ f.1 = 2 ∨ f.1 = 3 := by omega
            clear hkd e1 hf
            rcases hcs with h1 | h1 | h1
            · rw [h1] at d0
              clear h1
              go_wp2_with fail
              go_roundw
              case rel => exact ⟨k + 1, by omega, by first | exact ⟨by simp, trivial⟩ | simp⟩
              case measure => simp [intOf]; omega
            · rw [h1] at d0
              clear h1
              go_wp2_with fail
              go_roundw
              case rel => exact ⟨k + 1, by omega, by first | exact ⟨by simp, trivial⟩ | simp⟩
              case measure => simp [intOf]; omega
            · rw [h1] at d0
              clear h1
              go_wp2_with fail
              go_roundw
              case rel => exact ⟨k + 1, by omega, by first | exact ⟨by simp, trivial⟩ | simp⟩
              case measure => simp [intOf]; omega
          · have hlt : ¬ (k : Int) < (js.length : Int) := by omega
            go_wp2_with fail
            go_ret
            exact ⟨rfl, HB6.out⟩
  · have hf2 : Job.fine js = false := by simpa using hf
    rw [hf2] at CG
    clear hf hf2
    go_wp2_with (go_at_call 8; refine CG.mono ?_; rintro e w2 ⟨rfl, b2⟩)
    go_ret
    exact ⟨rfl, HB1.out.trans (b2.mono HB1.out.size)⟩
end Aw
end Go.Proofs.YtbgiegecfapmlaaGreatDoor
