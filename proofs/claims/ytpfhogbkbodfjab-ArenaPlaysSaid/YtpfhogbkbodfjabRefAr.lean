/- What each function of the reference's Arena does to one of them; conditions: at most 1000 places. -/
import Derived.Test.YtpfhogbkbodfjabArPlain
import Derived.Deep.RegionLaw
import Derived.IntWalk
namespace Go.Proofs.Ytpfhogbkbodfjab
open Go.RowKit
set_option linter.unusedVariables false
set_option linter.unusedSimpArgs false
namespace RefAr
open Ar
abbrev Pl := APlace ByteArray
def ons (ps : List Pl) : List Value := ps.map fun x => Value.bool x.on
def gens (ps : List Pl) : List Value := ps.map fun x => Value.int .i64 x.g
def vals (ps : List Pl) : List Value := ps.map fun x => Value.string x.v
def nums (fr : List Nat) : List Value := fr.map fun (i : Nat) => Value.int .i64 (i : Int)
/-- Where its rows lie, and their room. -/
structure Sh where
  A : Option Addr
  a : Nat
  G : Option Addr
  g : Nat
  V : Option Addr
  v : Nat
  B : Option Addr
  b : Nat
/-- The reference's Arena at block p. -/
structure At (w : World) (p : Nat) (s : Sh) (room : Nat) (ps : List Pl) (fr : List Nat) : Prop where
  Bl : Blk w p 60 [.int .i64 (room : Int), .slice s.A ps.length s.a, .slice s.G ps.length s.g, .slice s.V ps.length s.v, .slice s.B fr.length s.b]
  I : w.ownsRow 0 4 1 (.slice s.A ps.length s.a) ps.length (ons ps)
  G : w.ownsRow 0 2 1 (.slice s.G ps.length s.g) ps.length (gens ps)
  V : w.ownsRow 0 9 1 (.slice s.V ps.length s.v) ps.length (vals ps)
  F : Has w 3 1 (.slice s.B fr.length s.b) fr.length (nums fr)
def ob (A : Option Addr) : Option Nat := (Value.slice A 0 0).ownBlock
theorem ob_eq (A : Option Addr) (n c : Nat) : (Value.slice A n c).ownBlock = ob A := by cases A <;> rfl
def Foot (p : Nat) (s : Sh) (b : Nat) : Prop := b = p ∨ ob s.A = some b ∨ ob s.G = some b ∨ ob s.V = some b ∨ ob s.B = some b
theorem own_cell {w : World} {base n c : Nat} {e : TypeId} {A : Option Addr} {cs : List Value} (h : w.ownsRow base e 1 (.slice A n c) n cs) {i : Nat} {u : Value} (hu : cs[i]? = some u) : ∃ g, A = some ⟨g, 0, none⟩ ∧ w.cell? ⟨g, i, Option.none⟩ = some u := by
  have hi := (List.getElem?_eq_some_iff.1 hu).1
  have hl := h.1
  rcases h.2 with ⟨_, h0⟩ | ⟨g, cap, cur, hv, _⟩
  · omega
  · injection hv with hA _ hc
    subst hA hc
    exact ⟨g, rfl, by rw [h.cellAt _ (by omega), hu]⟩
theorem has_type {w : World} {e : TypeId} {sz n g : Nat} {v : Value} {cs : List Value} (h : Has w e sz v n cs) (hg : v.ownBlock = some g) : ∃ cur, w.heap[g]? = some (.cells cur e (0, 0)) := by
  rcases h.2 with ⟨h0, _⟩ | ⟨g', off, cap, cur, hv, _, _, hh, _⟩
  · rw [h0] at hg; cases hg
  · rw [hv] at hg; cases hg; exact ⟨cur, hh⟩
theorem types_ne {w : World} {e e' : TypeId} {sz sz' n n' g : Nat} {v v' : Value} {cs cs' : List Value} (h : Has w e sz v n cs) (h' : Has w e' sz' v' n' cs') (hne : e ≠ e') (hg : v.ownBlock = some g) : v'.ownBlock ≠ some g := by
  intro hg'
  obtain ⟨c1, h1⟩ := has_type h hg
  obtain ⟨c2, h2⟩ := has_type h' hg'
  rw [h1] at h2
  injection h2 with h2
  injection h2 with _ ht
  exact hne ht
theorem type_blk {w : World} {e t : TypeId} {sz n g : Nat} {v : Value} {cs bs : List Value} (h : Has w e sz v n cs) (hB : Blk w g t bs) (hne : e ≠ t) : v.ownBlock ≠ some g := by
  intro hg
  obtain ⟨c1, h1⟩ := has_type h hg
  exact own_ne hB hne g c1 h1 rfl
theorem has_lt {w : World} {e : TypeId} {sz n g : Nat} {v : Value} {cs : List Value} (h : Has w e sz v n cs) (hg : v.ownBlock = some g) : g < w.heap.size := by
  obtain ⟨c1, h1⟩ := has_type h hg
  exact (Array.getElem?_eq_some_iff.1 h1).1
section
variable {w w' : World} {p room : Nat} {s : Sh} {ps : List Pl} {fr : List Nat} {S : Nat → Prop}
theorem At.kept (h : At w p s room ps fr) (k : Keeps S w w') (hS : ∀ b, Foot p s b → ¬ S b) : At w' p s room ps fr :=
  ⟨h.Bl.kept k (hS p (.inl rfl)), own_kept h.I k (fun g _ _ hg => hS g (.inr (.inl ((ob_eq _ _ _).symm.trans hg)))), own_kept h.G k (fun g _ _ hg => hS g (.inr (.inr (.inl ((ob_eq _ _ _).symm.trans hg))))),
    own_kept h.V k (fun g _ _ hg => hS g (.inr (.inr (.inr (.inl ((ob_eq _ _ _).symm.trans hg)))))), h.F.kept k (fun g _ _ hg => hS g (.inr (.inr (.inr (.inr ((ob_eq _ _ _).symm.trans hg))))))⟩
theorem At.stay (h : At w p s room ps fr) (k : Keeps (fun _ => False) w w') : At w' p s room ps fr := h.kept k fun _ _ h => h
theorem At.lt (h : At w p s room ps fr) : ∀ b, Foot p s b → b < w.heap.size := by
  rintro b (rfl | hb | hb | hb | hb)
  · exact h.Bl.lt
  · exact has_lt (Has.of_own h.I) ((ob_eq _ _ _).trans hb)
  · exact has_lt (Has.of_own h.G) ((ob_eq _ _ _).trans hb)
  · exact has_lt (Has.of_own h.V) ((ob_eq _ _ _).trans hb)
  · exact has_lt h.F ((ob_eq _ _ _).trans hb)
theorem At.place (h : At w p s room ps fr) {i : Nat} {x : Pl} (hx : ps[i]? = some x) :
    ∃ ga gg gv, s.A = some ⟨ga, 0, none⟩ ∧ s.G = some ⟨gg, 0, Option.none⟩ ∧ s.V = some ⟨gv, 0, Option.none⟩ ∧ w.cell? ⟨ga, i, Option.none⟩ = some (.bool x.on) ∧ w.cell? ⟨gg, i, Option.none⟩ = some (.int .i64 x.g) ∧ w.cell? ⟨gv, i, Option.none⟩ = some (.string x.v) := by
  obtain ⟨ga, h1, h2⟩ := own_cell h.I (i := i) (u := .bool x.on) (by simp [ons, hx])
  obtain ⟨gg, h3, h4⟩ := own_cell h.G (i := i) (u := .int .i64 x.g) (by simp [gens, hx])
  obtain ⟨gv, h5, h6⟩ := own_cell h.V (i := i) (u := .string x.v) (by simp [vals, hx])
  exact ⟨ga, gg, gv, h1, h3, h5, h2, h4, h6⟩
theorem At.free (h : At w p s room ps fr) {i k : Nat} (hx : fr[i]? = some k) : ∃ g off, s.B = some ⟨g, off, none⟩ ∧ w.cell? ⟨g, off + i, Option.none⟩ = some (.int .i64 (k : Int)) := by
  have hi := (List.getElem?_eq_some_iff.1 hx).1
  have hF := h.F
  obtain ⟨g, off, hA, hc⟩ := hF.at_ (by omega)
  exact ⟨g, off, hA, hc i _ (by simp [nums, hx])⟩
theorem map_same {β : Type} {f : Pl → β} {i : Nat} {x y : Pl} (hx : ps[i]? = some x) (he : f y = f x) : (ps.set i y).map f = ps.map f := by
  apply List.ext_getElem?
  intro m
  rw [List.getElem?_map, List.getElem?_map]
  by_cases hm : i = m
  · subst hm
    rw [List.getElem?_set_self (List.getElem?_eq_some_iff.1 hx).1, hx]
    simp [he]
  · rw [List.getElem?_set_ne hm]
/-- What a write into one of the rows leaves alone. -/
theorem At.off (h : At w p s room ps fr) {g : Nat} {e : TypeId} {v : Value} {n : Nat} {cs : List Value} (hr : Has w e 1 v n cs) (hg : v.ownBlock = some g) (i : Nat) (u : Value) :
    (e ≠ 60 → Blk (w.setCell ⟨g, i, none⟩ u) p 60 [.int .i64 (room : Int), .slice s.A ps.length s.a, .slice s.G ps.length s.g, .slice s.V ps.length s.v, .slice s.B fr.length s.b]) ∧
    (e ≠ 4 → (w.setCell ⟨g, i, none⟩ u).ownsRow 0 4 1 (.slice s.A ps.length s.a) ps.length (ons ps)) ∧
    (e ≠ 2 → (w.setCell ⟨g, i, none⟩ u).ownsRow 0 2 1 (.slice s.G ps.length s.g) ps.length (gens ps)) ∧
    (e ≠ 9 → (w.setCell ⟨g, i, none⟩ u).ownsRow 0 9 1 (.slice s.V ps.length s.v) ps.length (vals ps)) ∧
    (e ≠ 3 → Has (w.setCell ⟨g, i, none⟩ u) 3 1 (.slice s.B fr.length s.b) fr.length (nums fr)) := by
  have k : Keeps (· = g) w (w.setCell ⟨g, i, none⟩ u) := (keep1 g w).setCell _ (.inl rfl) _
  refine ⟨fun hne => h.Bl.kept k (fun e => type_blk hr h.Bl hne (by rw [hg]; exact congrArg some e.symm)), fun hne => own_kept h.I k (fun g' _ _ h' e => ?_), fun hne => own_kept h.G k (fun g' _ _ h' e => ?_), fun hne => own_kept h.V k (fun g' _ _ h' e => ?_), fun hne => h.F.kept k (fun g' _ _ h' e => ?_)⟩
  · exact types_ne hr (Has.of_own h.I) hne hg (by rw [h']; exact congrArg some e)
  · exact types_ne hr (Has.of_own h.G) hne hg (by rw [h']; exact congrArg some e)
  · exact types_ne hr (Has.of_own h.V) hne hg (by rw [h']; exact congrArg some e)
  · exact types_ne hr h.F hne hg (by rw [h']; exact congrArg some e)
theorem At.setOn (h : At w p s room ps fr) {ga i : Nat} {x : Pl} (hA : s.A = some ⟨ga, 0, none⟩) (hx : ps[i]? = some x) (on : Bool) : At (w.setCell ⟨ga, i, none⟩ (.bool on)) p s room (ps.set i ⟨x.v, x.g, on⟩) fr := by
  obtain ⟨h1, h2, h3, h4, h5⟩ := h.off (Has.of_own h.I) (g := ga) (by rw [ob_eq, hA]; rfl) i (.bool on)
  have o := h.I
  rw [hA] at o
  have o2 := (o.stored i (.bool on)).1
  rw [← hA] at o2
  refine ⟨by rw [List.length_set]; exact h1 (by decide), ?_, ?_, ?_, h5 (by decide)⟩
  · rw [List.length_set, show ons (ps.set i ⟨x.v, x.g, on⟩) = (ons ps).set i (.bool on) from List.map_set]; exact o2
  · rw [List.length_set, show gens (ps.set i ⟨x.v, x.g, on⟩) = gens ps from map_same hx rfl]; exact h3 (by decide)
  · rw [List.length_set, show vals (ps.set i ⟨x.v, x.g, on⟩) = vals ps from map_same hx rfl]; exact h4 (by decide)
theorem At.setG (h : At w p s room ps fr) {ga i : Nat} {x : Pl} (hA : s.G = some ⟨ga, 0, none⟩) (hx : ps[i]? = some x) (g : Int) : At (w.setCell ⟨ga, i, none⟩ (.int .i64 g)) p s room (ps.set i ⟨x.v, g, x.on⟩) fr := by
  obtain ⟨h1, h2, h3, h4, h5⟩ := h.off (Has.of_own h.G) (g := ga) (by rw [ob_eq, hA]; rfl) i (.int .i64 g)
  have o := h.G
  rw [hA] at o
  have o2 := (o.stored i (.int .i64 g)).1
  rw [← hA] at o2
  refine ⟨by rw [List.length_set]; exact h1 (by decide), ?_, ?_, ?_, h5 (by decide)⟩
  · rw [List.length_set, show ons (ps.set i ⟨x.v, g, x.on⟩) = ons ps from map_same hx rfl]; exact h2 (by decide)
  · rw [List.length_set, show gens (ps.set i ⟨x.v, g, x.on⟩) = (gens ps).set i (.int .i64 g) from List.map_set]; exact o2
  · rw [List.length_set, show vals (ps.set i ⟨x.v, g, x.on⟩) = vals ps from map_same hx rfl]; exact h4 (by decide)
theorem At.setV (h : At w p s room ps fr) {ga i : Nat} {x : Pl} (hA : s.V = some ⟨ga, 0, none⟩) (hx : ps[i]? = some x) (v : ByteArray) : At (w.setCell ⟨ga, i, none⟩ (.string v)) p s room (ps.set i ⟨v, x.g, x.on⟩) fr := by
  obtain ⟨h1, h2, h3, h4, h5⟩ := h.off (Has.of_own h.V) (g := ga) (by rw [ob_eq, hA]; rfl) i (.string v)
  have o := h.V
  rw [hA] at o
  have o2 := (o.stored i (.string v)).1
  rw [← hA] at o2
  refine ⟨by rw [List.length_set]; exact h1 (by decide), ?_, ?_, ?_, h5 (by decide)⟩
  · rw [List.length_set, show ons (ps.set i ⟨v, x.g, x.on⟩) = ons ps from map_same hx rfl]; exact h2 (by decide)
  · rw [List.length_set, show gens (ps.set i ⟨v, x.g, x.on⟩) = gens ps from map_same hx rfl]; exact h3 (by decide)
  · rw [List.length_set, show vals (ps.set i ⟨v, x.g, x.on⟩) = (vals ps).set i (.string v) from List.map_set]; exact o2
end
set_option maxRecDepth 100000 in
set_option maxHeartbeats 1000000 in
theorem find_any (p : Nat) (s : Sh) (room : Nat) (ps : List Pl) (fr : List Nat) (sl g : Int) (w : World) (h : At w p s room ps fr) (hr : room ≤ 1000) (hl : ps.length ≤ 1000) :
    Calls Try.prog 77 #[.pointer (some ⟨p, 0, none⟩), .int .i64 sl, .int .i64 g] w fun e w' => e = .returned (.int .i64 (code room ps sl g)) ∧ Keeps (fun _ => False) w w' := by
  have c0 := h.Bl.cellAt (i := 0) rfl
  have c1 := h.Bl.cellAt (i := 1) rfl
  have c2 := h.Bl.cellAt (i := 2) rfl
  have c3 := h.Bl.cellAt (i := 3) rfl
  have K := Keeps.refl (fun _ => False) w
  unfold code
  by_cases h1 : sl < 0
  · rw [if_pos (.inl h1)]
    go_enter Try.func77, Try.ntmps77
    go_wp2_with fail
    go_ret
    exact ⟨rfl, K⟩
  · by_cases h2 : (room : Int) ≤ sl
    · rw [if_pos (.inr h2)]
      go_enter Try.func77, Try.ntmps77
      go_wp2_with fail
      go_ret
      exact ⟨rfl, K⟩
    · rw [if_neg (by omega)]
      obtain ⟨i, rfl⟩ : ∃ i : Nat, sl = (i : Int) := ⟨sl.toNat, by omega⟩
      rw [Int.toNat_natCast]
      by_cases h3 : i < ps.length
      · obtain ⟨x, hx⟩ : ∃ x, ps[i]? = some x := ⟨_, List.getElem?_eq_getElem h3⟩
        obtain ⟨ga, gg, gv, hA, hG, hV, d0, d1, d2⟩ := h.place hx
        rw [hx]
        rw [hA] at c1
        rw [hG] at c2
        have h2' : ¬ room ≤ i := by omega
        have h3' : ¬ ps.length ≤ i := by omega
        have j0 : (0 : Int) ≤ (i : Int) := by omega
        have j1 : (i : Int) < (ps.length : Int) := by omega
        clear hx hA hG hV h d2
        obtain ⟨xv, xg, xo⟩ := x
        dsimp only at *
        cases xo with
        | false =>
          rw [if_neg (by simp)]
          go_enter Try.func77, Try.ntmps77
          go_wp2_with fail
          go_ret
          exact ⟨rfl, K⟩
        | true =>
          by_cases h4 : xg = g
          · subst h4
            rw [if_pos (by simp)]
            go_enter Try.func77, Try.ntmps77
            go_wp2_with fail
            go_ret
            exact ⟨rfl, K⟩
          · rw [if_neg (by simp [h4])]
            have h5 : (xg == g) = false := by simpa using h4
            have h6 : (xg != g) = true := by simpa using h4
            clear h4
            go_enter Try.func77, Try.ntmps77
            go_wp2_with fail
            go_ret
            exact ⟨rfl, K⟩
      · rw [List.getElem?_eq_none (by omega)]
        have h3' : ps.length ≤ i := by omega
        have h2' : ¬ room ≤ i := by omega
        clear h3 h2
        go_enter Try.func77, Try.ntmps77
        go_wp2_with fail
        go_ret
        exact ⟨rfl, K⟩

set_option maxHeartbeats 1000000 in
theorem get_no (p : Nat) (s : Sh) (room : Nat) (ps : List Pl) (fr : List Nat) (sl g : Int) (w : World) (h : At w p s room ps fr) (hr : room ≤ 1000) (hl : ps.length ≤ 1000) (r : Int) (hc : code room ps sl g = r) (hr0 : r ≠ 0) :
    Calls Try.prog 39 #[.pointer (some ⟨p, 0, none⟩), .int .i64 sl, .int .i64 g] w fun e w' => e = .returned (.tuple #[.string ⟨#[]⟩, .int .i64 r]) ∧ Keeps (fun _ => False) w w' := by
  have hrb : (r == 0) = false := by simpa using hr0
  have hrn : (r != 0) = true := by simpa using hr0
  have HC := Lib.hid hc
  clear hc hr0
  go_enter Try.func39, Try.ntmps39
  go_wp2_with fail
  refine (find_any p s room ps fr sl g _ h hr hl).mono ?_
  rintro e w2 ⟨rfl, k2⟩
  rw [HC.out]
  go_wp2_with fail
  go_ret2
  exact ⟨rfl, k2⟩
set_option maxHeartbeats 1000000 in
theorem get_ok (p : Nat) (s : Sh) (room : Nat) (ps : List Pl) (fr : List Nat) (i : Nat) (g : Int) (x : Pl) (w : World) (h : At w p s room ps fr) (hr : room ≤ 1000) (hl : ps.length ≤ 1000) (hc : code room ps i g = 0) (hx : ps[i]? = some x) :
    Calls Try.prog 39 #[.pointer (some ⟨p, 0, none⟩), .int .i64 (i : Int), .int .i64 g] w fun e w' => e = .returned (.tuple #[.string x.v, .int .i64 0]) ∧ Keeps (fun _ => False) w w' := by
  have HC := Lib.hid hc
  have HX := Lib.hid hx
  have h3 := (List.getElem?_eq_some_iff.1 hx).1
  have j0 : (0 : Int) ≤ (i : Int) := by omega
  have j1 : (i : Int) < (ps.length : Int) := by omega
  clear hc hx
  go_enter Try.func39, Try.ntmps39
  go_wp2_with fail
  refine (find_any p s room ps fr i g _ h hr hl).mono ?_
  rintro e w2 ⟨rfl, k2⟩
  rw [HC.out]
  have h2 := h.stay k2
  have c3 := h2.Bl.cellAt (i := 3) rfl
  obtain ⟨ga, gg, gv, hA, hG, hV, d0, d1, d2⟩ := h2.place HX.out
  rw [hV] at c3
  clear hA hG hV d0 d1
  go_wp2_with fail
  go_ret2
  exact ⟨rfl, k2⟩
set_option maxHeartbeats 1000000 in
theorem set_no (p : Nat) (s : Sh) (room : Nat) (ps : List Pl) (fr : List Nat) (sl g : Int) (v : ByteArray) (w : World) (h : At w p s room ps fr) (hr : room ≤ 1000) (hl : ps.length ≤ 1000) (r : Int) (hc : code room ps sl g = r) (hr0 : r ≠ 0) :
    Calls Try.prog 41 #[.pointer (some ⟨p, 0, none⟩), .int .i64 sl, .int .i64 g, .string v] w fun e w' => e = .returned (.int .i64 r) ∧ Keeps (fun _ => False) w w' := by
  have hrb : (r == 0) = false := by simpa using hr0
  have HC := Lib.hid hc
  clear hc hr0
  go_enter Try.func41, Try.ntmps41
  go_wp2_with fail
  refine (find_any p s room ps fr sl g _ h hr hl).mono ?_
  rintro e w2 ⟨rfl, k2⟩
  rw [HC.out]
  go_wp2_with fail
  go_ret
  exact ⟨rfl, k2⟩
set_option maxHeartbeats 1000000 in
theorem set_ok (p : Nat) (s : Sh) (room : Nat) (ps : List Pl) (fr : List Nat) (i : Nat) (g : Int) (v : ByteArray) (x : Pl) (w : World) (h : At w p s room ps fr) (hr : room ≤ 1000) (hl : ps.length ≤ 1000) (hc : code room ps i g = 0) (hx : ps[i]? = some x) :
    Calls Try.prog 41 #[.pointer (some ⟨p, 0, none⟩), .int .i64 (i : Int), .int .i64 g, .string v] w fun e w' => e = .returned (.int .i64 0) ∧ At w' p s room (ps.set i ⟨v, x.g, x.on⟩) fr ∧ Keeps (Foot p s) w w' := by
  have HC := Lib.hid hc
  have HX := Lib.hid hx
  have h3 := (List.getElem?_eq_some_iff.1 hx).1
  have j0 : (0 : Int) ≤ (i : Int) := by omega
  have j1 : (i : Int) < (ps.length : Int) := by omega
  clear hc hx
  go_enter Try.func41, Try.ntmps41
  go_wp2_with fail
  refine (find_any p s room ps fr i g _ h hr hl).mono ?_
  rintro e w2 ⟨rfl, k2⟩
  rw [HC.out]
  have h2 := h.stay k2
  have c3 := h2.Bl.cellAt (i := 3) rfl
  obtain ⟨ga, gg, gv, hA, hG, hV, d0, d1, d2⟩ := h2.place HX.out
  have fv := h2.V
  rw [hV] at c3 fv
  have fa := fv.frozenAt
  have HV := Lib.hid hV
  clear hA hG hV d0 d1 fv
  go_wp2_with fail
  go_ret
  exact ⟨rfl, h2.setV HV.out HX.out v, (k2.mono (fun _ _ h => h.elim)).setCell ⟨gv, i, none⟩ (.inl (.inr (.inr (.inr (.inl (by rw [HV.out]; rfl)))))) _⟩

end RefAr
end Go.Proofs.Ytpfhogbkbodfjab
