/- The runner of package robust in memory; conditions: none. -/
import Derived.Test.YtbgiegecfapmlaaGreatDoorEdfFits
import Derived.Test.YtbgiegecfapmlaaGreatDoorRobRun
namespace Go.Proofs.YtbgiegecfapmlaaGreatDoor
open Go.RowKit
set_option linter.unusedVariables false
set_option linter.unusedSimpArgs false
namespace Rob
open Job (jc jv)
def iv (x : Int) : Value := .int .i64 x
def fc (f : Int × Int) : List Value := [.int .i64 f.1, .int .i64 f.2]
theorem fc_len (f : Int × Int) : (fc f).length = 2 := rfl
/-- Where a runner lies. -/
structure Adr where
  p : Nat
  gi : Nat
  gr : Nat
  gf : Nat
  Aj : Option Addr
  cj : Nat
  ci : Nat
  cr : Nat
  cf : Nat
  tv : Value
  sv : Value
  av : Value
def ob (v : Value) : List Nat := v.ownBlock.toList
def Adr.blocks (d : Adr) : List Nat := d.p :: d.gi :: d.gr :: d.gf :: (ob d.tv ++ ob d.sv ++ ob d.av ++ (d.Aj.map (·.block)).toList)
structure At (base : Nat) (w : World) (d : Adr) (js : List J) (s : St) (now : Int) : Prop where
  B : Blk w d.p 82 [.slice d.Aj js.length d.cj, .slice (some ⟨d.gi, 0, none⟩) js.length d.ci, .slice (some ⟨d.gr, 0, none⟩) js.length d.cr, d.tv, .slice (some ⟨d.gf, 0, none⟩) js.length d.cf, d.sv, d.av, .int .i64 now]
  JR : Row jc 8 w d.Aj js.length js
  I : Blk w d.gi 3 (s.is.map iv)
  R : Blk w d.gr 3 (s.ran.map iv)
  F : Blk w d.gf 53 (s.fs.flatMap fc)
  li : s.is.length = js.length
  lr : s.ran.length = js.length
  lf : s.fs.length = js.length
  T : w.ownsRow base 3 1 d.tv s.tr.length (s.tr.map iv)
  S : w.ownsRow base 3 1 d.sv s.sh.length (s.sh.map iv)
  A : w.ownsRow base 3 1 d.av s.ag.length (s.ag.map iv)
  nd : d.blocks.Nodup
  ge : ∀ b ∈ d.blocks, base ≤ b
  lt : ∀ b ∈ d.blocks, b < w.heap.size
  n12 : js.length ≤ 12
section
variable {base : Nat} {w w' : World} {d : Adr} {js : List J} {s : St} {now : Int}
theorem blk_below {g : Nat} {t : TypeId} {cs : List Value} (h : Blk w g t cs) (hb : Below w.heap.size w w') : Blk w' g t cs := (hb.block g h.lt).trans h
theorem own_below {e : TypeId} {size n : Nat} {v : Value} {xs : List Value} (h : w.ownsRow base e size v n xs) (hb : Below w.heap.size w w') : w'.ownsRow base e size v n xs := by
  refine ⟨h.1, ?_⟩
  rcases h.2 with h0 | ⟨g, cap, cur, rfl, hb', hg, hr⟩
  · exact .inl h0
  · exact .inr ⟨g, cap, cur, rfl, hb', (hb.block g (Array.getElem?_eq_some_iff.1 hg).1).trans hg, hr⟩
theorem At.down (h : At base w d js s now) (hb : Below w.heap.size w w') : At base w' d js s now := by
  constructor
  · exact blk_below h.B hb
  · exact Row.below h.JR hb
  · exact blk_below h.I hb
  · exact blk_below h.R hb
  · exact blk_below h.F hb
  · exact h.li
  · exact h.lr
  · exact h.lf
  · exact own_below h.T hb
  · exact own_below h.S hb
  · exact own_below h.A hb
  · exact h.nd
  · exact h.ge
  · exact fun b hb' => Nat.lt_of_lt_of_le (h.lt b hb') hb.size
  · exact h.n12
theorem is_get (h : At base w d js s now) {i : Nat} (hi : i < js.length) : (s.is.map iv)[i]? = some (.int .i64 (isAt s i)) := by
  have : i < s.is.length := by rw [h.li]; exact hi
  rw [List.getElem?_map, List.getElem?_eq_getElem this]
  unfold isAt
  rw [List.getD_eq_getElem?_getD, List.getElem?_eq_getElem this]
  rfl
theorem ran_get (h : At base w d js s now) {i : Nat} (hi : i < js.length) : (s.ran.map iv)[i]? = some (.int .i64 (ranAt s i)) := by
  have : i < s.ran.length := by rw [h.lr]; exact hi
  rw [List.getElem?_map, List.getElem?_eq_getElem this]
  unfold ranAt
  rw [List.getD_eq_getElem?_getD, List.getElem?_eq_getElem this]
  rfl
theorem kd_get (h : At base w d js s now) {i : Nat} (hi : i < js.length) : (s.fs.flatMap fc)[i * 2 + 0]? = some (.int .i64 (kdAt s i)) := by
  have : i < s.fs.length := by rw [h.lf]; exact hi
  rw [flat_get fc_len _ _ _ (by omega), List.getElem?_eq_getElem this]
  unfold kdAt
  rw [List.getD_eq_getElem?_getD, List.getElem?_eq_getElem this]
  rfl
set_option maxRecDepth 100000 in
theorem open_is (h : At base w d js s now) {i : Nat} (hi : i < js.length) (k : Int) :
    Calls Tryz.prog 33 #[.pointer (some ⟨d.p, 0, none⟩), .int .i64 (i : Int), .int .i64 k] w fun e w' => e = .returned (.bool (opn s i k)) ∧ w' = w := by
  have b1 := h.B.cellAt (i := 1) rfl
  have b4 := h.B.cellAt (i := 4) rfl
  have c0 := h.I.cellAt (is_get h hi)
  have c1 := h.F.cellAt (kd_get h hi)
  rw [Nat.add_zero] at c1
  have hi0 : (0 : Int) ≤ (i : Int) := by omega
  have hi1 : (i : Int) < (js.length : Int) := by omega
  obtain ⟨o, ho⟩ : ∃ o, opn s i k = o := ⟨_, rfl⟩
  rw [ho]
  unfold opn at ho
  have HO := Lib.hid ho
  clear ho h
  generalize isAt s i = u at *
  generalize kdAt s i = v at *
  by_cases h1 : u = k
  · have q1 : (u == k) = true := by simpa using h1
    by_cases h2 : v = 0
    · have q2 : (v == 0) = true := by simpa using h2
      have F : Hid (o = true) := Lib.hid (by rw [← HO.out, q1, q2]; rfl)
      clear h1 h2
      go_enter Tryz.func33, Tryz.ntmps33
      go_wp2_with fail
      go_ret
      exact ⟨by rw [F.out]; rfl, rfl⟩
    · have q2 : (v == 0) = false := by simpa using h2
      have F : Hid (o = false) := Lib.hid (by rw [← HO.out, q1, q2]; rfl)
      clear h1 h2
      go_enter Tryz.func33, Tryz.ntmps33
      go_wp2_with fail
      go_ret
      exact ⟨by rw [F.out]; rfl, rfl⟩
  · have q1 : (u == k) = false := by simpa using h1
    have F : Hid (o = false) := Lib.hid (by rw [← HO.out, q1]; rfl)
    clear h1
    go_enter Tryz.func33, Tryz.ntmps33
    go_wp2_with fail
    go_ret
    exact ⟨by rw [F.out]; rfl, rfl⟩
end
end Rob
end Go.Proofs.YtbgiegecfapmlaaGreatDoor
