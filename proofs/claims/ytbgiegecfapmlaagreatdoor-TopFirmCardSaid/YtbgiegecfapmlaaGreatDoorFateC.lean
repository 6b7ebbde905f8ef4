/- What each function of package fate does to one Book; conditions: at most 200 jobs. -/
import Derived.Test.YtbgiegecfapmlaaGreatDoorFlat
namespace Go.Proofs.YtbgiegecfapmlaaGreatDoor
open Go.RowKit
set_option linter.unusedVariables false
set_option linter.unusedSimpArgs false
/-- What became of a job. -/
structure Fa where
  k : Int
  t : Int
namespace Fate
def cf (f : Fa) : List Value := [.int .i64 f.k, .int .i64 f.t]
theorem cf_len (f : Fa) : (cf f).length = 2 := rfl
theorem infoF : (Tryz.prog.info? 53).map (fun i => (i.zero, i.size, i.bytes)) = some (some (.agg #[.int .i64 0, .int .i64 0]), 2, 16) := by kernel_rfl
theorem infoI : (Tryz.prog.info? 3).map (fun i => (i.zero, i.size, i.bytes)) = some (some (.int .i64 0), 1, 8) := by kernel_rfl
/-- The Book at block p, its list at block g. -/
structure At (w : World) (p g : Nat) (xs : List Fa) : Prop where
  B : Blk w p 154 [.slice (some ⟨g, 0, none⟩) xs.length xs.length]
  G : Blk w g 53 (xs.flatMap cf)
theorem At.ne {w : World} {p g : Nat} {xs : List Fa} (h : At w p g xs) : p ≠ g := Blk.ne_ h.B h.G (by decide)
theorem At.kept {w w' : World} {p g : Nat} {xs : List Fa} {S : Nat → Prop} (h : At w p g xs) (k : Keeps S w w') (hp : ¬ S p) (hg : ¬ S g) : At w' p g xs := ⟨h.B.kept k hp, h.G.kept k hg⟩
theorem At.cell {w : World} {p g : Nat} {xs : List Fa} (h : At w p g xs) {i : Nat} {f : Fa} (hf : xs[i]? = some f) :
    w.cell? ⟨g, i * 2, none⟩ = some (.int .i64 f.k) ∧ w.cell? ⟨g, i * 2 + 1, none⟩ = some (.int .i64 f.t) :=
  ⟨h.G.cellAt (flat_at cf_len hf (j := 0) rfl), h.G.cellAt (flat_at cf_len hf (j := 1) rfl)⟩
set_option maxRecDepth 100000 in
set_option maxHeartbeats 400000 in
theorem new_any (n : Nat) (w : World) (hn : n ≤ 200) :
    Calls Tryz.prog 38 #[.int .i64 (n : Int)] w fun e w' => ∃ p g, e = .returned (.tuple #[.pointer (some ⟨p, 0, none⟩), .int .i64 0]) ∧ w.heap.size ≤ p ∧ w.heap.size ≤ g ∧ At w' p g (List.replicate n ⟨0, 0⟩) ∧ Keeps (fun _ => False) w w' := by
  obtain ⟨i0, hi0, hz0, hz1, hz2⟩ := info_parts infoF
  have hmk : ∀ W : World, (Instr.makeSlice 40 (.int .i64 (n : Int)) (.int .i64 (n : Int))).run Tryz.prog W = .ok (.slice (some ⟨W.heap.size, 0, none⟩) n n) (W.alloc (.cells ((List.replicate n (⟨0, 0⟩ : Fa)).flatMap cf).toArray 53)) := by
    intro W
    have := run_make (P := Tryz.prog) (w := W) 40 53 i0 _ Tryz.underlying40 hi0 hz0 .i64 .i64 (n : Int) (n : Int) (by omega) (by omega) (by rw [hz2]; omega) (by omega)
    simp only [Int.toNat_natCast, hz1] at this
    rw [this]
    have := made_cells cf_len (by omega) (⟨0, 0⟩ : Fa) n
    simp only [Value.cells]
    rw [← this]; rfl
  obtain ⟨Z, hZ⟩ : ∃ Z, Z = (List.replicate n (⟨0, 0⟩ : Fa)).flatMap cf := ⟨_, rfl⟩
  obtain ⟨Za, hZa⟩ : ∃ Za, Za = Z.toArray := ⟨_, rfl⟩
  rw [← hZ, ← hZa] at hmk
  have HZ := Lib.hid hZ
  have HZa := Lib.hid hZa
  clear hZ hZa hi0 hz0 hz1 hz2
  go_enter Tryz.func38, Tryz.ntmps38
  go_wp2
  go_ret2
  refine ⟨w.heap.size + 1, w.heap.size, rfl, by omega, by omega, ⟨?_, ?_⟩, ((Keeps.refl _ _).alloc _).alloc _⟩
  · have := Blk.new (w.alloc (.cells Za 53)) 154 [.slice (some ⟨w.heap.size, 0, none⟩) n n]
    simpa using this
  · rw [← HZ.out, HZa.out]; exact (Blk.new w _ _).alloc _
set_option maxHeartbeats 400000 in
theorem new_no (n : Int) (w : World) (hn : n < 0 ∨ 200 < n) :
    Calls Tryz.prog 38 #[.int .i64 n] w fun e w' => e = .returned (.tuple #[.pointer none, .int .i64 1]) ∧ w = w' := by
  by_cases h : n < 0
  · go_enter Tryz.func38, Tryz.ntmps38
    go_wp2
    go_ret2
    exact ⟨rfl, rfl⟩
  · go_enter Tryz.func38, Tryz.ntmps38
    go_wp2
    go_ret2
    exact ⟨rfl, rfl⟩
def inR (xs : List Fa) (i : Int) : Bool := decide (0 ≤ i ∧ i < xs.length)
set_option maxHeartbeats 400000 in
theorem has_any (p g : Nat) (xs : List Fa) (i : Int) (w : World) (hl : xs.length ≤ 200) (h : At w p g xs) :
    Calls Tryz.prog 74 #[.pointer (some ⟨p, 0, none⟩), .int .i64 i] w fun e w' => e = .returned (.bool (inR xs i)) ∧ w = w' := by
  have c0 := h.B.cellAt (i := 0) rfl
  clear h
  unfold inR
  by_cases h0 : 0 ≤ i
  · go_enter Tryz.func74, Tryz.ntmps74
    go_wp2
    go_ret
    exact ⟨by simp [h0], rfl⟩
  · go_enter Tryz.func74, Tryz.ntmps74
    go_wp2
    go_ret
    exact ⟨by simp; omega, rfl⟩
/-- Say: what it answers, and the list behind it. -/
def say (xs : List Fa) (i k t : Int) : Int × List Fa :=
  if ¬ (0 ≤ i ∧ i < xs.length) ∨ k < 1 ∨ 5 < k ∨ t < 0 then (1, xs)
  else if (xs[i.toNat]?.map Fa.k) ≠ some 0 then (5, xs)
  else (0, xs.set i.toNat ⟨k, t⟩)
theorem say_len (xs : List Fa) (i k t : Int) : (say xs i k t).2.length = xs.length := by
  unfold say
  (repeat' split) <;> simp
theorem say_no (p g : Nat) (xs : List Fa) (i k t : Int) (w : World) (hl : xs.length ≤ 200) (h : At w p g xs) (hb : ¬ (0 ≤ i ∧ i < xs.length) ∨ k < 1 ∨ 5 < k ∨ t < 0) :
    Calls Tryz.prog 39 #[.pointer (some ⟨p, 0, none⟩), .int .i64 i, .int .i64 k, .int .i64 t] w fun e w' => e = .returned (.int .i64 1) ∧ w = w' := by
  obtain ⟨r, hr⟩ : ∃ r, inR xs i = r := ⟨_, rfl⟩
  have HR := Lib.hid hr
  cases r with
  | false =>
    clear hr hb
    go_enter Tryz.func39, Tryz.ntmps39
    go_wp2_with fail
    refine (has_any p g xs i _ hl h).mono ?_
    rintro e w1 ⟨rfl, rfl⟩
    rw [HR.out]
    go_wp2_with fail
    go_ret
    exact ⟨rfl, rfl⟩
  | true =>
    have hb' : k < 1 ∨ 5 < k ∨ t < 0 := by
      unfold inR at hr
      rw [decide_eq_true_eq] at hr
      omega
    clear hr hb
    go_enter Tryz.func39, Tryz.ntmps39
    go_wp2_with fail
    refine (has_any p g xs i _ hl h).mono ?_
    rintro e w1 ⟨rfl, rfl⟩
    rw [HR.out]
    go_wp2_with fail
    all_goals go_ret
    all_goals exact ⟨rfl, rfl⟩
set_option maxHeartbeats 1000000 in
theorem say_yes (p g : Nat) (xs : List Fa) (i : Nat) (f : Fa) (k t : Int) (w : World) (hl : xs.length ≤ 200) (h : At w p g xs) (hf : xs[i]? = some f) (h1 : 1 ≤ k) (h2 : k ≤ 5) (h3 : 0 ≤ t) (r : Int) (ys : List Fa) (hs : say xs i k t = (r, ys)) :
    Calls Tryz.prog 39 #[.pointer (some ⟨p, 0, none⟩), .int .i64 (i : Int), .int .i64 k, .int .i64 t] w fun e w' => e = .returned (.int .i64 r) ∧ At w' p g ys ∧ Keeps (· = g) w w' := by
  have hlt : i < xs.length := (List.getElem?_eq_some_iff.1 hf).1
  have hli : (i : Int) < (xs.length : Int) := by omega
  have hr : inR xs i = true := by simp [inR]; omega
  have c0 := h.B.cellAt (i := 0) rfl
  obtain ⟨d0, d1⟩ := h.cell hf
  have fz := h.G.frozen
  have HR := Lib.hid hr
  have hsay : say xs i k t = if f.k = 0 then (0, xs.set i ⟨k, t⟩) else (5, xs) := by
    unfold say
    rw [if_neg (by omega), Int.toNat_natCast, hf]
    by_cases hk : f.k = 0
    · rw [if_pos hk, if_neg (by simp [hk])]
    · rw [if_neg hk, if_pos (by simp [hk])]
  rw [hs] at hsay
  have HS := Lib.hid hsay
  have HF := Lib.hid hf
  clear hr hsay hs hf
  by_cases hk : f.k = 0
  · have hkb : (f.k != 0) = false := by simp [hk]
    have HK := Lib.hid hk
    clear hk
    go_enter Tryz.func39, Tryz.ntmps39
    go_wp2_with fail
    refine (has_any p g xs i _ hl h).mono ?_
    rintro e w1 ⟨rfl, rfl⟩
    rw [HR.out]
    go_wp2_with fail
    go_ret
    have he := HS.out
    rw [if_pos HK.out] at he
    cases he
    have hne := h.ne
    refine ⟨rfl, ⟨?_, ?_⟩, ((keep1 g w).setCell _ (.inl rfl) _).setCell _ (.inl rfl) _⟩
    · rw [List.length_set]; exact (h.B.far (p := ⟨g, i * 2, none⟩) hne _).far (p := ⟨g, i * 2 + 1, none⟩) hne _
    · rw [flat_set cf_len (by omega)]; exact (h.G.set_ (i * 2) _).set_ (i * 2 + 1) _
  · have hkb : (f.k != 0) = true := by simp [hk]
    have HK := Lib.hid hk
    clear hk
    go_enter Tryz.func39, Tryz.ntmps39
    go_wp2_with fail
    refine (has_any p g xs i _ hl h).mono ?_
    rintro e w1 ⟨rfl, rfl⟩
    rw [HR.out]
    go_wp2_with fail
    go_ret
    have he := HS.out
    rw [if_neg HK.out] at he
    cases he
    exact ⟨rfl, h, Keeps.refl _ _⟩
set_option maxHeartbeats 1000000 in
theorem of_any (p g : Nat) (xs : List Fa) (i : Nat) (f : Fa) (w : World) (hl : xs.length ≤ 200) (h : At w p g xs) (hf : xs[i]? = some f) :
    Calls Tryz.prog 77 #[.pointer (some ⟨p, 0, none⟩), .int .i64 (i : Int)] w fun e w' => e = .returned (.tuple #[.agg #[.int .i64 f.k, .int .i64 f.t], .bool true]) ∧ Keeps (fun _ => False) w w' := by
  have hlt : i < xs.length := (List.getElem?_eq_some_iff.1 hf).1
  have hli : (i : Int) < (xs.length : Int) := by omega
  have hr : inR xs i = true := by simp [inR]; omega
  have HR := Lib.hid hr
  have h' : At (w.alloc (.cells #[.int .i64 0, .int .i64 0] 53)) p g xs := h.kept ((Keeps.refl (fun _ => False) w).alloc _) (fun h => h) (fun h => h)
  have c0 := h'.B.cellAt (i := 0) rfl
  obtain ⟨d0, d1⟩ := h'.cell hf
  clear hr hf
  go_enter Tryz.func77, Tryz.ntmps77
  go_wp2_with fail
  refine (has_any p g xs i _ hl h').mono ?_
  rintro e w1 ⟨rfl, rfl⟩
  rw [HR.out]
  go_wp2_with fail
  exact bodyPost_ret (v := .tuple #[.agg #[.int .i64 f.k, .int .i64 f.t], .bool true]) (by simp [results, Tryz.results77, go_sem]) rfl ⟨rfl, by repeat (first | exact Keeps.refl _ _ | apply Keeps.alloc)⟩
set_option maxHeartbeats 1000000 in
theorem of_no (p g : Nat) (xs : List Fa) (i : Int) (w : World) (hl : xs.length ≤ 200) (h : At w p g xs) (hf : ¬ (0 ≤ i ∧ i < xs.length)) :
    Calls Tryz.prog 77 #[.pointer (some ⟨p, 0, none⟩), .int .i64 i] w fun e w' => e = .returned (.tuple #[.agg #[.int .i64 0, .int .i64 0], .bool false]) ∧ Keeps (fun _ => False) w w' := by
  have hr : inR xs i = false := by simp [inR]; omega
  have HR := Lib.hid hr
  have h' : At (w.alloc (.cells #[.int .i64 0, .int .i64 0] 53)) p g xs := h.kept ((Keeps.refl (fun _ => False) w).alloc _) (fun h => h) (fun h => h)
  clear hr
  go_enter Tryz.func77, Tryz.ntmps77
  go_wp2_with fail
  refine (has_any p g xs i _ hl h').mono ?_
  rintro e w1 ⟨rfl, rfl⟩
  rw [HR.out]
  go_wp2_with fail
  exact bodyPost_ret (v := .tuple #[.agg #[.int .i64 0, .int .i64 0], .bool false]) (by simp [results, Tryz.results77, go_sem]) rfl ⟨rfl, by repeat (first | exact Keeps.refl _ _ | apply Keeps.alloc)⟩
/-- Behind a new block: the same Book. -/
theorem At.alloc {w : World} {p g : Nat} {xs : List Fa} (h : At w p g xs) (o : Obj) : At (w.alloc o) p g xs := h.kept ((Keeps.refl (fun _ => False) w).alloc _) (fun h => h) (fun h => h)
theorem At.none {w w' : World} {p g : Nat} {xs : List Fa} (h : At w p g xs) (k : Keeps (fun _ => False) w w') : At w' p g xs := h.kept k (fun h => h) (fun h => h)
theorem cells_one (xs : List Fa) : ∀ u ∈ xs.flatMap cf, u.oneCell' = true := by
  intro u hu
  obtain ⟨f, _, hf⟩ := List.mem_flatMap.1 hu
  simp [cf] at hf
  rcases hf with rfl | rfl <;> rfl
set_option maxRecDepth 100000 in
set_option maxHeartbeats 1000000 in
theorem clone_any (A : Option Addr) (c : Nat) (xs : List Fa) (w : World) (hl : xs.length ≤ 200) (hA : A ≠ none) (h : Has w 53 2 (.slice A xs.length c) xs.length (xs.flatMap cf)) :
    Calls Tryz.prog 75 #[.slice A xs.length c] w fun e w' => ∃ A' c', e = .returned (.slice A' xs.length c') ∧ Has w' 53 2 (.slice A' xs.length c') xs.length (xs.flatMap cf) ∧ (∀ g o, A' = some ⟨g, o, none⟩ → w.heap.size ≤ g) ∧ Keeps (fun _ => False) w w' := by
  obtain ⟨i0, hi0, hz0, hz1, hz2⟩ := info_parts infoF
  obtain ⟨ad, rfl⟩ : ∃ ad, A = some ad := by cases A with | none => exact absurd rfl hA | some ad => exact ⟨ad, rfl⟩
  have hnil := fun (W : World) (a : Option Addr) (n c n' c' : Nat) => Lib.run_eql_slice_nil (P := Tryz.prog) W 40 53 a n c n' c' Tryz.underlying40
  clear hA
  go_enter Tryz.func75, Tryz.ntmps75
  go_wp2_with (at_builtin; refine wpList_append_has rfl (.tmp 5) (.tmp 6) 40 rfl i0 _ 16 Tryz.underlying40 hi0 hz0 hz1 hz2 rfl (by omega) rfl (own_empty w w.heap.size 53 2 (Nat.le_refl _)) (some ad) xs.length c (xs.flatMap cf) rfl (h.kept ((Keeps.refl (fun _ => False) _).alloc _) (fun _ _ _ _ h => h)) (cells_one _) (by unfold maxLen; omega) (by omega) (by simp) ?_; intro v1 w1 own1 g1 at1)
  have K1 : Keeps (fun _ => False) w w1 := keeps_grown ((Keeps.refl _ _).alloc _) g1 (fun g h => .inr (Nat.le_of_eq (slice_block h)))
  simp only [Nat.zero_add, List.nil_append] at own1
  obtain ⟨A2, c2, hv2⟩ := own_shape own1
  subst hv2
  have HH := Has.of_own own1
  have hb : ∀ g o, A2 = some ⟨g, o, none⟩ → w.heap.size ≤ g := fun g o he => (own1.lt g (by rw [he]; rfl)).1
  clear own1 g1 at1
  go_wp2_with fail
  go_ret
  exact ⟨A2, c2, rfl, HH, hb, K1⟩
theorem all_any (p g : Nat) (xs : List Fa) (w : World) (hl : xs.length ≤ 200) (h : At w p g xs) :
    Calls Tryz.prog 42 #[.pointer (some ⟨p, 0, none⟩)] w fun e w' => ∃ A' c', e = .returned (.slice A' xs.length c') ∧ Has w' 53 2 (.slice A' xs.length c') xs.length (xs.flatMap cf) ∧ (∀ g o, A' = some ⟨g, o, none⟩ → w.heap.size ≤ g) ∧ Keeps (fun _ => False) w w' := by
  have c0 := h.B.cellAt (i := 0) rfl
  have hh : Has w 53 2 (.slice (some ⟨g, 0, none⟩) xs.length xs.length) xs.length (xs.flatMap cf) :=
    ⟨flat_length cf_len xs, .inr ⟨g, 0, xs.length, (xs.flatMap cf).toArray, rfl, Nat.le_refl _, by unfold maxLen; omega, h.G, fun j u hu => by simpa using hu⟩⟩
  go_enter Tryz.func42, Tryz.ntmps42
  go_wp2_with fail
  refine (clone_any (some ⟨g, 0, none⟩) xs.length xs _ hl (by simp) hh).mono ?_
  rintro e w1 ⟨A', c', rfl, H1, H2, k1⟩
  go_wp2_with fail
  go_ret
  exact ⟨A', c', rfl, H1, H2, k1⟩
end Fate
end Go.Proofs.YtbgiegecfapmlaaGreatDoor
