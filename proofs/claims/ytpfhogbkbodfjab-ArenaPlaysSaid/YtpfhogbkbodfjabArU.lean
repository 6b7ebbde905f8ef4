/- What an arena does, told once for the program's and the reference's; conditions: at most 1000 places. -/
import Derived.Test.YtpfhogbkbodfjabRefArIs
import Derived.Test.YtpfhogbkbodfjabArSIs
import Derived.Test.YtpfhogbkbodfjabArSSet
namespace Go.Proofs.Ytpfhogbkbodfjab
open Go.RowKit
set_option linter.unusedVariables false
set_option linter.unusedSimpArgs false
namespace ArU
open Ar
abbrev Pl := APlace ByteArray
/-- What holds of the places and the free ones behind n words. -/
structure Ok (room : Nat) (ps : List Pl) (fr : List Nat) (n : Nat) : Prop where
  len : ps.length ≤ room
  r : room ≤ 1000
  fl : fr.length ≤ n
  nn : n ≤ 80
  fr : ∀ i ∈ fr, i < ps.length
  g : ∀ x ∈ ps, 0 ≤ x.g ∧ x.g ≤ n
/-- v is put in. -/
def Put (room : Nat) (ps : List Pl) (fr : List Nat) (v : ByteArray) (s g e : Int) (ps' : List Pl) (fr' : List Nat) : Prop :=
  (∃ (i : Nat) (x : Pl), fr = fr' ++ [i] ∧ ps[i]? = some x ∧ s = (i : Int) ∧ g = x.g + 1 ∧ e = 0 ∧ ps' = ps.set i ⟨v, x.g + 1, true⟩) ∨
  (fr = [] ∧ fr' = [] ∧ ps.length = room ∧ s = 0 ∧ g = 0 ∧ e = 6 ∧ ps' = ps) ∨
  (fr = [] ∧ fr' = [] ∧ ps.length < room ∧ s = (ps.length : Int) ∧ g = 1 ∧ e = 0 ∧ ps' = ps ++ [⟨v, 1, true⟩])
theorem Ok.put {room n : Nat} {ps : List Pl} {fr : List Nat} (X : Ok room ps fr n) (v : ByteArray) : ∃ s g e ps' fr', Put room ps fr v s g e ps' fr' := by
  rcases List.eq_nil_or_concat fr with h | ⟨fr0, i, h⟩
  · by_cases hl : ps.length = room
    · exact ⟨_, _, _, _, [], Or.inr (Or.inl ⟨h, rfl, hl, rfl, rfl, rfl, rfl⟩)⟩
    · exact ⟨_, _, _, _, [], Or.inr (Or.inr ⟨h, rfl, by have := X.len; omega, rfl, rfl, rfl, rfl⟩)⟩
  · have hi := X.fr i (by rw [h]; simp)
    exact ⟨_, _, _, _, fr0, Or.inl ⟨i, ps[i], by rw [h]; simp, List.getElem?_eq_getElem hi, rfl, rfl, rfl, rfl⟩⟩
theorem Ok.next {room n : Nat} {ps : List Pl} {fr : List Nat} (X : Ok room ps fr n) (hn : n + 1 ≤ 80) : Ok room ps fr (n + 1) :=
  ⟨X.len, X.r, by have := X.fl; omega, hn, X.fr, fun x hx => by have := X.g x hx; omega⟩
theorem Ok.set {room n : Nat} {ps : List Pl} {fr : List Nat} (X : Ok room ps fr n) (i : Nat) (y : Pl) (hy : 0 ≤ y.g ∧ y.g ≤ n) : Ok room (ps.set i y) fr n :=
  ⟨by rw [List.length_set]; exact X.len, X.r, X.fl, X.nn, fun j hj => by rw [List.length_set]; exact X.fr j hj, fun x hx => by
    rcases List.mem_or_eq_of_mem_set hx with h | h
    · exact X.g x h
    · rw [h]; exact hy⟩
theorem Put.ok {room n : Nat} {ps ps' : List Pl} {fr fr' : List Nat} {v : ByteArray} {s g e : Int} (P : Put room ps fr v s g e ps' fr') (X : Ok room ps fr n) (hn : n + 1 ≤ 80) : Ok room ps' fr' (n + 1) := by
  rcases P with ⟨i, x, h1, h2, _, _, _, h3⟩ | ⟨h1, h2, h3, _, _, _, h4⟩ | ⟨h1, h2, h3, _, _, _, h4⟩
  · subst h1 h3
    have hx := X.g x (List.mem_of_getElem? h2)
    have Y : Ok room ps fr' (n + 1) := ⟨X.len, X.r, by have := X.fl; simp at this; omega, hn, fun j hj => X.fr j (by simp [hj]), fun x hx => by have := X.g x hx; omega⟩
    exact Y.set i _ (by dsimp only; omega)
  · subst h1 h2 h4
    exact X.next hn
  · subst h1 h2 h4
    refine ⟨by simp; omega, X.r, by simp, hn, by simp, fun x hx => ?_⟩
    rcases List.mem_append.1 hx with h | h
    · have := X.g x h; omega
    · simp at h; subst h; dsimp only; omega
def val (room : Nat) (ps : List Pl) (s g : Int) : ByteArray := if code room ps s g = 0 then ((ps[s.toNat]?).map (·.v)).getD ⟨#[]⟩ else ⟨#[]⟩
def setp (room : Nat) (ps : List Pl) (s g : Int) (v : ByteArray) : List Pl := if code room ps s g = 0 then (match ps[s.toNat]? with | some x => ps.set s.toNat ⟨v, x.g, x.on⟩ | none => ps) else ps
def freep (room : Nat) (ps : List Pl) (s g : Int) : List Pl := if code room ps s g = 0 then (match ps[s.toNat]? with | some x => ps.set s.toNat ⟨⟨#[]⟩, x.g, false⟩ | none => ps) else ps
def freef (room : Nat) (ps : List Pl) (fr : List Nat) (s g : Int) : List Nat := if code room ps s g = 0 then fr ++ [s.toNat] else fr
section
variable {w : World} {p room n : Nat} {F : Nat → Prop} {ps : List Pl} {fr : List Nat}
theorem ref_put (v : ByteArray) (h : RefAr.Is w p F room ps fr) (X : Ok room ps fr n) {s g e : Int} {ps' : List Pl} {fr' : List Nat} (P : Put room ps fr v s g e ps' fr') :
    Calls Try.prog 37 #[.pointer (some ⟨p, 0, none⟩), .string v] w fun r w' => r = .returned (.tuple #[.int .i64 s, .int .i64 g, .int .i64 e]) ∧ (∃ F', RefAr.Is w' p F' room ps' fr' ∧ ∀ q, F' q → F q ∨ w.heap.size ≤ q) ∧ Keeps F w w' := by
  have hl := X.len
  have hr := X.r
  have hf := X.fl
  have hn := X.nn
  rcases P with ⟨i, x, h1, h2, rfl, rfl, rfl, rfl⟩ | ⟨rfl, rfl, h3, rfl, rfl, rfl, rfl⟩ | ⟨rfl, rfl, h3, rfl, rfl, rfl, rfl⟩
  · subst h1
    have hx := X.g x (List.mem_of_getElem? h2)
    exact RefAr.put_free_i v i x h h2 (by omega) (by omega) (by simp at hf; omega)
  · refine (RefAr.put_full_i v h h3.symm (by omega)).mono ?_
    rintro r w' ⟨he, k⟩
    exact ⟨he, ⟨F, h.stay k, fun q hq => .inl hq⟩, k.mono (fun _ _ h => h.elim)⟩
  · exact RefAr.put_new_i v h rfl h3 hr
theorem prog_put (v : ByteArray) (h : ArS.Is w p F room ps fr) (X : Ok room ps fr n) {s g e : Int} {ps' : List Pl} {fr' : List Nat} (P : Put room ps fr v s g e ps' fr') :
    Calls Try.prog 36 #[.pointer (some ⟨p, 0, none⟩), .string v] w fun r w' => r = .returned (.tuple #[.agg #[.int .i64 s, .int .i64 g], .int .i64 e]) ∧ (∃ F', ArS.Is w' p F' room ps' fr' ∧ ∀ q, F' q → F q ∨ w.heap.size ≤ q) ∧ Keeps F w w' := by
  have hl := X.len
  have hr := X.r
  have hf := X.fl
  have hn := X.nn
  obtain ⟨A, c, B, d, ha, rfl⟩ := h
  rcases P with ⟨i, x, h1, h2, rfl, rfl, rfl, rfl⟩ | ⟨rfl, rfl, h3, rfl, rfl, rfl, rfl⟩ | ⟨rfl, rfl, h3, rfl, rfl, rfl, rfl⟩
  · subst h1
    have hx := X.g x (List.mem_of_getElem? h2)
    refine (ArS.put_free p A c B d room ps fr' i x v w ha h2 (by omega) (by omega) (by simp at hf; omega)).mono ?_
    rintro r w' ⟨he, ha', k⟩
    exact ⟨he, ⟨_, ⟨A, c, B, d, ha', rfl⟩, fun q hq => .inl hq⟩, k⟩
  · refine (ArS.put_full p A c B d room _ v w ha (by omega) (by omega)).mono ?_
    rintro r w' ⟨he, k⟩
    exact ⟨he, ⟨_, ⟨A, c, B, d, ha.stay k, rfl⟩, fun q hq => .inl hq⟩, k.mono (fun _ _ h => h.elim)⟩
  · refine (ArS.put_new p A c B d room ps v w ha h3 hr).mono ?_
    rintro r w' ⟨he, ⟨A', c', ha', hf⟩, k⟩
    exact ⟨he, ⟨_, ⟨A', c', B, d, ha', rfl⟩, hf⟩, k⟩
theorem ref_get (s g : Int) (h : RefAr.Is w p F room ps fr) (X : Ok room ps fr n) :
    Calls Try.prog 39 #[.pointer (some ⟨p, 0, none⟩), .int .i64 s, .int .i64 g] w fun r w' => r = .returned (.tuple #[.string (val room ps s g), .int .i64 (code room ps s g)]) ∧ Keeps (fun _ => False) w w' := by
  have hl := X.len
  have hr := X.r
  unfold val
  by_cases hc : code room ps s g = 0
  · obtain ⟨i, x, rfl, hi, hx, ho, rfl⟩ := ArS.code_ok hc
    rw [if_pos hc, hc, Int.toNat_natCast, hx]
    exact RefAr.get_ok_i i x.g x h hr (by omega) hc hx
  · rw [if_neg hc]
    exact RefAr.get_no_i s g h hr (by omega) _ rfl hc
theorem prog_get (s g : Int) (h : ArS.Is w p F room ps fr) (X : Ok room ps fr n) :
    Calls Try.prog 38 #[.pointer (some ⟨p, 0, none⟩), .agg #[.int .i64 s, .int .i64 g]] w fun r w' => r = .returned (.tuple #[.string (val room ps s g), .int .i64 (code room ps s g)]) ∧ Keeps (fun _ => False) w w' := by
  have hl := X.len
  have hr := X.r
  obtain ⟨A, c, B, d, ha, rfl⟩ := h
  unfold val
  by_cases hc : code room ps s g = 0
  · obtain ⟨i, x, rfl, hi, hx, ho, rfl⟩ := ArS.code_ok hc
    rw [if_pos hc, hc, Int.toNat_natCast, hx]
    exact ArS.get_ok p A c B d room ps fr i x w ha hi hr (by omega) hx ho
  · rw [if_neg hc]
    exact ArS.get_no p A c B d room ps fr s g w ha hr (by omega) _ rfl hc
theorem ref_set (s g : Int) (v : ByteArray) (h : RefAr.Is w p F room ps fr) (X : Ok room ps fr n) :
    Calls Try.prog 41 #[.pointer (some ⟨p, 0, none⟩), .int .i64 s, .int .i64 g, .string v] w fun r w' => r = .returned (.int .i64 (code room ps s g)) ∧ RefAr.Is w' p F room (setp room ps s g v) fr ∧ Keeps F w w' := by
  have hl := X.len
  have hr := X.r
  unfold setp
  by_cases hc : code room ps s g = 0
  · obtain ⟨i, x, rfl, hi, hx, ho, rfl⟩ := ArS.code_ok hc
    rw [if_pos hc, hc, Int.toNat_natCast, hx]
    exact RefAr.set_ok_i i x.g v x h hr (by omega) hc hx
  · rw [if_neg hc]
    refine (RefAr.set_no_i s g v h hr (by omega) _ rfl hc).mono ?_
    rintro r w' ⟨he, k⟩
    exact ⟨he, h.stay k, k.mono (fun _ _ h => h.elim)⟩
theorem prog_set (s g : Int) (v : ByteArray) (h : ArS.Is w p F room ps fr) (X : Ok room ps fr n) :
    Calls Try.prog 40 #[.pointer (some ⟨p, 0, none⟩), .agg #[.int .i64 s, .int .i64 g], .string v] w fun r w' => r = .returned (.int .i64 (code room ps s g)) ∧ ArS.Is w' p F room (setp room ps s g v) fr ∧ Keeps F w w' := by
  have hl := X.len
  have hr := X.r
  obtain ⟨A, c, B, d, ha, rfl⟩ := h
  unfold setp
  by_cases hc : code room ps s g = 0
  · obtain ⟨i, x, rfl, hi, hx, ho, rfl⟩ := ArS.code_ok hc
    rw [if_pos hc, hc, Int.toNat_natCast, hx]
    refine (ArS.set_ok p A c B d room ps fr i x v w ha hi hr (by omega) hx ho).mono ?_
    rintro r w' ⟨he, ha', k⟩
    exact ⟨he, ⟨A, c, B, d, ha', rfl⟩, k⟩
  · rw [if_neg hc]
    refine (ArS.set_no p A c B d room ps fr s g v w ha hr (by omega) _ rfl hc).mono ?_
    rintro r w' ⟨he, k⟩
    exact ⟨he, ⟨A, c, B, d, ha.stay k, rfl⟩, k.mono (fun _ _ h => h.elim)⟩
theorem ref_free (s g : Int) (h : RefAr.Is w p F room ps fr) (X : Ok room ps fr n) :
    Calls Try.prog 43 #[.pointer (some ⟨p, 0, none⟩), .int .i64 s, .int .i64 g] w fun r w' => r = .returned (.int .i64 (code room ps s g)) ∧ (∃ F', RefAr.Is w' p F' room (freep room ps s g) (freef room ps fr s g) ∧ ∀ q, F' q → F q ∨ w.heap.size ≤ q) ∧ Keeps F w w' := by
  have hl := X.len
  have hr := X.r
  have hf := X.fl
  have hn := X.nn
  unfold freep freef
  by_cases hc : code room ps s g = 0
  · obtain ⟨i, x, rfl, hi, hx, ho, rfl⟩ := ArS.code_ok hc
    rw [if_pos hc, if_pos hc, hc, Int.toNat_natCast, hx]
    exact RefAr.free_ok_i i x.g x h hr (by omega) (by omega) hc hx
  · rw [if_neg hc, if_neg hc]
    refine (RefAr.free_no_i s g h hr (by omega) _ rfl hc).mono ?_
    rintro r w' ⟨he, k⟩
    exact ⟨he, ⟨F, h.stay k, fun q hq => .inl hq⟩, k.mono (fun _ _ h => h.elim)⟩
theorem prog_free (s g : Int) (h : ArS.Is w p F room ps fr) (X : Ok room ps fr n) :
    Calls Try.prog 42 #[.pointer (some ⟨p, 0, none⟩), .agg #[.int .i64 s, .int .i64 g]] w fun r w' => r = .returned (.int .i64 (code room ps s g)) ∧ (∃ F', ArS.Is w' p F' room (freep room ps s g) (freef room ps fr s g) ∧ ∀ q, F' q → F q ∨ w.heap.size ≤ q) ∧ Keeps F w w' := by
  have hl := X.len
  have hr := X.r
  have hf := X.fl
  have hn := X.nn
  obtain ⟨A, c, B, d, ha, rfl⟩ := h
  unfold freep freef
  by_cases hc : code room ps s g = 0
  · obtain ⟨i, x, rfl, hi, hx, ho, rfl⟩ := ArS.code_ok hc
    rw [if_pos hc, if_pos hc, hc, Int.toNat_natCast, hx]
    refine (ArS.free_ok p A c B d room ps fr i x w ha hi hr (by omega) (by omega) hx ho).mono ?_
    rintro r w' ⟨he, ⟨B', d', ha', hf'⟩, k⟩
    exact ⟨he, ⟨_, ⟨A, c, B', d', ha', rfl⟩, hf'⟩, k⟩
  · rw [if_neg hc, if_neg hc]
    refine (ArS.free_no p A c B d room ps fr s g w ha hr (by omega) _ rfl hc).mono ?_
    rintro r w' ⟨he, k⟩
    exact ⟨he, ⟨_, ⟨A, c, B, d, ha.stay k, rfl⟩, fun q hq => .inl hq⟩, k.mono (fun _ _ h => h.elim)⟩
end
/-- What set and free leave of what holds. -/
theorem Ok.setp {room n : Nat} {ps : List Pl} {fr : List Nat} (X : Ok room ps fr n) (hn : n + 1 ≤ 80) (s g : Int) (v : ByteArray) : Ok room (setp room ps s g v) fr (n + 1) := by
  have Y := X.next hn
  unfold ArU.setp
  split
  · cases hx : ps[s.toNat]? with
    | none => exact Y
    | some x => exact Y.set _ _ (Y.g x (List.mem_of_getElem? hx))
  · exact Y
theorem Ok.freep {room n : Nat} {ps : List Pl} {fr : List Nat} (X : Ok room ps fr n) (hn : n + 1 ≤ 80) (s g : Int) : Ok room (freep room ps s g) (freef room ps fr s g) (n + 1) := by
  have Y := X.next hn
  unfold ArU.freep freef
  by_cases hc : code room ps s g = 0
  · obtain ⟨i, x, rfl, hi, hx, ho, rfl⟩ := ArS.code_ok hc
    rw [if_pos hc, if_pos hc, Int.toNat_natCast, hx]
    have hil := (List.getElem?_eq_some_iff.1 hx).1
    have Z : Ok room ps (fr ++ [i]) (n + 1) := ⟨X.len, X.r, by have := X.fl; simp; omega, hn, fun j hj => by
      rcases List.mem_append.1 hj with h | h
      · exact X.fr j h
      · simp at h; omega, Y.g⟩
    exact Z.set _ _ (Y.g x (List.mem_of_getElem? hx))
  · rw [if_neg hc, if_neg hc]
    exact Y
end ArU
end Go.Proofs.Ytpfhogbkbodfjab
