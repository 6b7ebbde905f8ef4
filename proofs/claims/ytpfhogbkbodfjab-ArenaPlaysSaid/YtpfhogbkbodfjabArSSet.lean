/- Set, at the kind string; conditions: at most 1000 places. -/
import Derived.Test.YtpfhogbkbodfjabArS
namespace Go.Proofs.Ytpfhogbkbodfjab
open Go.RowKit
set_option linter.unusedVariables false
set_option linter.unusedSimpArgs false
namespace ArS
open Ar
set_option maxHeartbeats 1000000 in
theorem set_no (p : Nat) (A : Option Addr) (c : Nat) (B : Option Addr) (d room : Nat) (ps : List (APlace El)) (fr : List Nat) (s g : Int) (v : El) (w : World) (h : At w p A c B d room ps fr) (hr : room ≤ 1000) (hl : ps.length ≤ 1000) (r : Int) (hc : code room ps s g = r) (hr0 : r ≠ 0) :
    Calls Try.prog 40 #[.pointer (some ⟨p, 0, none⟩), .agg #[.int .i64 s, .int .i64 g], .string v] w fun e w' => e = .returned (.int .i64 r) ∧ Keeps (fun _ => False) w w' := by
  have h1 := h.stay ((Keeps.refl (fun _ => False) w).alloc (.cells #[.int .i64 s, .int .i64 g] 42))
  have K1 := (Keeps.refl (fun _ => False) w).alloc (.cells #[.int .i64 s, .int .i64 g] 42)
  have hrb : (r == 0) = false := by simpa using hr0
  have HC := Lib.hid hc
  have HR := Lib.hid hr0
  clear hc h hr0
  go_enter Try.func40, Try.ntmps40
  go_wp2_with fail
  refine (find_no p A c B d room ps fr s g _ h1 hr hl r HC.out HR.out).mono ?_
  rintro e w2 ⟨rfl, k2⟩
  have K2 := K1.trans k2 (fun _ _ h => h)
  go_wp2_with fail
  go_ret
  exact ⟨rfl, K2⟩
set_option maxHeartbeats 1000000 in
theorem set_ok (p : Nat) (A : Option Addr) (c : Nat) (B : Option Addr) (d room : Nat) (ps : List (APlace El)) (fr : List Nat) (s : Nat) (x : APlace El) (v : El) (w : World) (h : At w p A c B d room ps fr) (hs : s < room) (hr : room ≤ 1000) (hl : ps.length ≤ 1000) (hx : ps[s]? = some x) (ho : x.on = true) :
    Calls Try.prog 40 #[.pointer (some ⟨p, 0, none⟩), .agg #[.int .i64 (s : Int), .int .i64 x.g], .string v] w fun e w' => e = .returned (.int .i64 0) ∧ At w' p A c B d room (ps.set s ⟨v, x.g, x.on⟩) fr ∧ Keeps (Foot p A B) w w' := by
  have h1 := h.stay ((Keeps.refl (fun _ => False) w).alloc (.cells #[.int .i64 (s : Int), .int .i64 x.g] 42))
  have K1 := (Keeps.refl (Foot p A B) w).alloc (.cells #[.int .i64 (s : Int), .int .i64 x.g] 42)
  have HO := Lib.hid ho
  have HX := Lib.hid hx
  clear h ho hx
  go_enter Try.func40, Try.ntmps40
  go_wp2_with fail
  refine (find_ok p A c B d room ps fr s x _ h1 hs hr hl HX.out HO.out).mono ?_
  rintro e w2 ⟨⟨ga, rfl, rfl⟩, k2⟩
  have H2 := h1.stay k2
  have K2 := K1.trans k2 (fun _ _ h => h.elim)
  obtain ⟨ga', hA, hap, d0, d1, d2⟩ := H2.place HX.out
  cases hA
  have fa := H2.P.frozenAt
  go_wp2_with fail
  go_ret
  exact ⟨rfl, H2.put1 HX.out v, K2.setCell ⟨ga, s * 3, none⟩ (.inl (.inr (.inl rfl))) _⟩
end ArS
end Go.Proofs.Ytpfhogbkbodfjab
