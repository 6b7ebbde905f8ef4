/- What each function of package fate does to one Book; conditions: at most 200 jobs. -/
import Derived.Test.YtpfhogbkbodfjaaFlat
namespace Go.Proofs.Ytpfhogbkbodfjaa
open Go.RowKit
set_option linter.unusedVariables false
set_option linter.unusedSimpArgs false
/-- What became of a job. -/
structure Fa where
  k : Int
  t : Int
namespace Fate
def cf (f : Fa) : List Value := [.int .i64 f.k, .int .i64 f.t]
theorem cf_len (f : Fa) : (cf f).length = 2 := rfl
theorem infoF : (Try.prog.info? 34).map (fun i => (i.zero, i.size, i.bytes)) = some (some (.agg #[.int .i64 0, .int .i64 0]), 2, 16) := by kernel_rfl
theorem infoI : (Try.prog.info? 3).map (fun i => (i.zero, i.size, i.bytes)) = some (some (.int .i64 0), 1, 8) := by kernel_rfl
/-- The Book at block p, its list at block g. -/
structure At (w : World) (p g : Nat) (xs : List Fa) : Prop where
  B : Blk w p 103 [.slice (some ⟨g, 0, none⟩) xs.length xs.length]
  G : Blk w g 34 (xs.flatMap cf)
theorem At.ne {w : World} {p g : Nat} {xs : List Fa} (h : At w p g xs) : p ≠ g := Blk.ne_ h.B h.G (by decide)
theorem At.kept {w w' : World} {p g : Nat} {xs : List Fa} {S : Nat → Prop} (h : At w p g xs) (k : Keeps S w w') (hp : ¬ S p) (hg : ¬ S g) : At w' p g xs := ⟨h.B.kept k hp, h.G.kept k hg⟩
theorem At.cell {w : World} {p g : Nat} {xs : List Fa} (h : At w p g xs) {i : Nat} {f : Fa} (hf : xs[i]? = some f) :
    w.cell? ⟨g, i * 2, none⟩ = some (.int .i64 f.k) ∧ w.cell? ⟨g, i * 2 + 1, none⟩ = some (.int .i64 f.t) :=
  ⟨h.G.cellAt (flat_at cf_len hf (j := 0) rfl), h.G.cellAt (flat_at cf_len hf (j := 1) rfl)⟩
set_option maxRecDepth 100000 in
set_option maxHeartbeats 400000 in
theorem new_any (n : Nat) (w : World) (hn : n ≤ 200) :
    Calls Try.prog 16 #[.int .i64 (n : Int)] w fun e w' => ∃ p g, e = .returned (.tuple #[.pointer (some ⟨p, 0, none⟩), .int .i64 0]) ∧ w.heap.size ≤ p ∧ w.heap.size ≤ g ∧ At w' p g (List.replicate n ⟨0, 0⟩) ∧ Keeps (fun _ => False) w w' := by
  obtain ⟨i0, hi0, hz0, hz1, hz2⟩ := info_parts infoF
  have hmk : ∀ W : World, (Instr.makeSlice 73 (.int .i64 (n : Int)) (.int .i64 (n : Int))).run Try.prog W = .ok (.slice (some ⟨W.heap.size, 0, none⟩) n n) (W.alloc (.cells ((List.replicate n (⟨0, 0⟩ : Fa)).flatMap cf).toArray 34)) := by
    intro W
    have := run_make (P := Try.prog) (w := W) 73 34 i0 _ Try.underlying73 hi0 hz0 .i64 .i64 (n : Int) (n : Int) (by omega) (by omega) (by rw [hz2]; omega) (by omega)
    simp only [Int.toNat_natCast, hz1] at this
    rw [this]
    have := made_cells cf_len (by omega) (⟨0, 0⟩ : Fa) n
    simp only [Value.cells]
    rw [← this]; rfl
  obtain ⟨Z, hZ⟩ : ∃ Z, Z = (List.replicate n (⟨0, 0⟩ : Fa)).flatMap cf := ⟨_, rfl⟩
  obtain ⟨Za, hZa⟩ : ∃ Za, Za = Z.toArray := ⟨_, rfl⟩
  rw [← hZ, ← hZa] at hmk
  have HZ := Lib.hid hZ
  have HZa := Lib.hid hZa
  clear hZ hZa hi0 hz0 hz1 hz2
  go_enter Try.func16, Try.ntmps16
  go_wp2
  go_ret2
  refine ⟨w.heap.size + 1, w.heap.size, rfl, by omega, by omega, ⟨?_, ?_⟩, ((Keeps.refl _ _).alloc _).alloc _⟩
  · have := Blk.new (w.alloc (.cells Za 34)) 103 [.slice (some ⟨w.heap.size, 0, none⟩) n n]
    simpa using this
  · rw [← HZ.out, HZa.out]; exact (Blk.new w _ _).alloc _
set_option maxHeartbeats 400000 in
theorem new_no (n : Int) (w : World) (hn : n < 0 ∨ 200 < n) :
    Calls Try.prog 16 #[.int .i64 n] w fun e w' => e = .returned (.tuple #[.pointer none, .int .i64 1]) ∧ w = w' := by
  by_cases h : n < 0
  · go_enter Try.func16, Try.ntmps16
    go_wp2
    go_ret2
    exact ⟨rfl, rfl⟩
  · go_enter Try.func16, Try.ntmps16
    go_wp2
    go_ret2
    exact ⟨rfl, rfl⟩
def inR (xs : List Fa) (i : Int) : Bool := decide (0 ≤ i ∧ i < xs.length)
set_option maxHeartbeats 400000 in
theorem has_any (p g : Nat) (xs : List Fa) (i : Int) (w : World) (hl : xs.length ≤ 200) (h : At w p g xs) :
    Calls Try.prog 54 #[.pointer (some ⟨p, 0, none⟩), .int .i64 i] w fun e w' => e = .returned (.bool (inR xs i)) ∧ w = w' := by
  have c0 := h.B.cellAt (i := 0) rfl
  clear h
  unfold inR
  by_cases h0 : 0 ≤ i
  · go_enter Try.func54, Try.ntmps54
    go_wp2
    go_ret
    exact ⟨by simp [h0], rfl⟩
  · go_enter Try.func54, Try.ntmps54
    go_wp2
    go_ret
    exact ⟨by simp; omega, rfl⟩
/-- Say: what it answers, and the list behind it. -/
def say (xs : List Fa) (i k t : Int) : Int × List Fa :=
  if ¬ (0 ≤ i ∧ i < xs.length) ∨ k < 1 ∨ 5 < k ∨ t < 0 then (1, xs)
  else if (xs[i.toNat]?.map Fa.k) ≠ some 0 then (5, xs)
  else (0, xs.set i.toNat ⟨k, t⟩)
theorem say_len (xs : List Fa) (i k t : Int) : (say xs i k t).2.length = xs.length := by
  unfold say
  (repeat' split) <;> simp
theorem say_no (p g : Nat) (xs : List Fa) (i k t : Int) (w : World) (hl : xs.length ≤ 200) (h : At w p g xs) (hb : ¬ (0 ≤ i ∧ i < xs.length) ∨ k < 1 ∨ 5 < k ∨ t < 0) :
    Calls Try.prog 17 #[.pointer (some ⟨p, 0, none⟩), .int .i64 i, .int .i64 k, .int .i64 t] w fun e w' => e = .returned (.int .i64 1) ∧ w = w' := by
  obtain ⟨r, hr⟩ : ∃ r, inR xs i = r := ⟨_, rfl⟩
  have HR := Lib.hid hr
  cases r with
  | false =>
    clear hr hb
    go_enter Try.func17, Try.ntmps17
    go_wp2_with fail
    refine (has_any p g xs i _ hl h).mono ?_
    rintro e w1 ⟨rfl, rfl⟩
    rw [HR.out]
    go_wp2_with fail
    go_ret
    exact ⟨rfl, rfl⟩
  | true =>
    have hb' : k < 1 ∨ 5 < k ∨ t < 0 := by
      unfold inR at hr
      rw [decide_eq_true_eq] at hr
      omega
    clear hr hb
    go_enter Try.func17, Try.ntmps17
    go_wp2_with fail
    refine (has_any p g xs i _ hl h).mono ?_
    rintro e w1 ⟨rfl, rfl⟩
    rw [HR.out]
    go_wp2_with fail
    all_goals go_ret
    all_goals exact ⟨rfl, rfl⟩
set_option maxHeartbeats 1000000 in
theorem say_yes (p g : Nat) (xs : List Fa) (i : Nat) (f : Fa) (k t : Int) (w : World) (hl : xs.length ≤ 200) (h : At w p g xs) (hf : xs[i]? = some f) (h1 : 1 ≤ k) (h2 : k ≤ 5) (h3 : 0 ≤ t) (r : Int) (ys : List Fa) (hs : say xs i k t = (r, ys)) :
    Calls Try.prog 17 #[.pointer (some ⟨p, 0, none⟩), .int .i64 (i : Int), .int .i64 k, .int .i64 t] w fun e w' => e = .returned (.int .i64 r) ∧ At w' p g ys ∧ Keeps (· = g) w w' := by
  have hlt : i < xs.length := (List.getElem?_eq_some_iff.1 hf).1
  have hli : (i : Int) < (xs.length : Int) := by omega
  have hr : inR xs i = true := by simp [inR]; omega
  have c0 := h.B.cellAt (i := 0) rfl
  obtain ⟨d0, d1⟩ := h.cell hf
  have fz := h.G.frozen
  have HR := Lib.hid hr
  have hsay : say xs i k t = if f.k = 0 then (0, xs.set i ⟨k, t⟩) else (5, xs) := by
    unfold say
    rw [if_neg (by omega), Int.toNat_natCast, hf]
    by_cases hk : f.k = 0
    · rw [if_pos hk, if_neg (by simp [hk])]
    · rw [if_neg hk, if_pos (by simp [hk])]
  rw [hs] at hsay
  have HS := Lib.hid hsay
  have HF := Lib.hid hf
  clear hr hsay hs hf
  by_cases hk : f.k = 0
  · have hkb : (f.k != 0) = false := by simp [hk]
    have HK := Lib.hid hk
    clear hk
    go_enter Try.func17, Try.ntmps17
    go_wp2_with fail
    refine (has_any p g xs i _ hl h).mono ?_
    rintro e w1 ⟨rfl, rfl⟩
    rw [HR.out]
    go_wp2_with fail
    go_ret
    have he := HS.out
    rw [if_pos HK.out] at he
    cases he
    have hne := h.ne
    refine ⟨rfl, ⟨?_, ?_⟩, ((keep1 g w).setCell _ (.inl rfl) _).setCell _ (.inl rfl) _⟩
    · rw [List.length_set]; exact (h.B.far (p := ⟨g, i * 2, none⟩) hne _).far (p := ⟨g, i * 2 + 1, none⟩) hne _
    · rw [flat_set cf_len (by omega)]; exact (h.G.set_ (i * 2) _).set_ (i * 2 + 1) _
  · have hkb : (f.k != 0) = true := by simp [hk]
    have HK := Lib.hid hk
    clear hk
    go_enter Try.func17, Try.ntmps17
    go_wp2_with fail
    refine (has_any p g xs i _ hl h).mono ?_
    rintro e w1 ⟨rfl, rfl⟩
    rw [HR.out]
    go_wp2_with fail
    go_ret
    have he := HS.out
    rw [if_neg HK.out] at he
    cases he
    exact ⟨rfl, h, Keeps.refl _ _⟩
set_option maxHeartbeats 1000000 in
theorem of_any (p g : Nat) (xs : List Fa) (i : Nat) (f : Fa) (w : World) (hl : xs.length ≤ 200) (h : At w p g xs) (hf : xs[i]? = some f) :
    Calls Try.prog 18 #[.pointer (some ⟨p, 0, none⟩), .int .i64 (i : Int)] w fun e w' => e = .returned (.tuple #[.agg #[.int .i64 f.k, .int .i64 f.t], .bool true]) ∧ Keeps (fun _ => False) w w' := by
  have hlt : i < xs.length := (List.getElem?_eq_some_iff.1 hf).1
  have hli : (i : Int) < (xs.length : Int) := by omega
  have hr : inR xs i = true := by simp [inR]; omega
  have HR := Lib.hid hr
  have h' : At (w.alloc (.cells #[.int .i64 0, .int .i64 0] 34)) p g xs := h.kept ((Keeps.refl (fun _ => False) w).alloc _) (fun h => h) (fun h => h)
  have c0 := h'.B.cellAt (i := 0) rfl
  obtain ⟨d0, d1⟩ := h'.cell hf
  clear hr hf
  go_enter Try.func18, Try.ntmps18
  go_wp2_with fail
  refine (has_any p g xs i _ hl h').mono ?_
  rintro e w1 ⟨rfl, rfl⟩
  rw [HR.out]
  go_wp2_with fail
  exact bodyPost_ret (v := .tuple #[.agg #[.int .i64 f.k, .int .i64 f.t], .bool true]) (by simp [results, Try.results18, go_sem]) rfl ⟨rfl, by repeat (first | exact Keeps.refl _ _ | apply Keeps.alloc)⟩
set_option maxHeartbeats 1000000 in
theorem of_no (p g : Nat) (xs : List Fa) (i : Int) (w : World) (hl : xs.length ≤ 200) (h : At w p g xs) (hf : ¬ (0 ≤ i ∧ i < xs.length)) :
    Calls Try.prog 18 #[.pointer (some ⟨p, 0, none⟩), .int .i64 i] w fun e w' => e = .returned (.tuple #[.agg #[.int .i64 0, .int .i64 0], .bool false]) ∧ Keeps (fun _ => False) w w' := by
  have hr : inR xs i = false := by simp [inR]; omega
  have HR := Lib.hid hr
  have h' : At (w.alloc (.cells #[.int .i64 0, .int .i64 0] 34)) p g xs := h.kept ((Keeps.refl (fun _ => False) w).alloc _) (fun h => h) (fun h => h)
  clear hr
  go_enter Try.func18, Try.ntmps18
  go_wp2_with fail
  refine (has_any p g xs i _ hl h').mono ?_
  rintro e w1 ⟨rfl, rfl⟩
  rw [HR.out]
  go_wp2_with fail
  exact bodyPost_ret (v := .tuple #[.agg #[.int .i64 0, .int .i64 0], .bool false]) (by simp [results, Try.results18, go_sem]) rfl ⟨rfl, by repeat (first | exact Keeps.refl _ _ | apply Keeps.alloc)⟩
/-- Behind a new block: the same Book. -/
theorem At.alloc {w : World} {p g : Nat} {xs : List Fa} (h : At w p g xs) (o : Obj) : At (w.alloc o) p g xs := h.kept ((Keeps.refl (fun _ => False) w).alloc _) (fun h => h) (fun h => h)
theorem At.none {w w' : World} {p g : Nat} {xs : List Fa} (h : At w p g xs) (k : Keeps (fun _ => False) w w') : At w' p g xs := h.kept k (fun h => h) (fun h => h)
def count (xs : List Fa) (k : Int) : Nat := (xs.filter (fun f => f.k == k)).length
theorem count_snoc (xs : List Fa) (f : Fa) (k : Int) : count (xs ++ [f]) k = count xs k + (f.k == k).toNat := by
  unfold count
  by_cases h : f.k = k <;> simp [List.filter_append, List.filter_cons, h]
theorem count_le (xs : List Fa) (k : Int) : count xs k ≤ xs.length := List.length_filter_le _ _
set_option maxRecDepth 100000 in
set_option maxHeartbeats 1000000 in
theorem count_any (p g : Nat) (xs : List Fa) (k : Int) (w : World) (hl : xs.length ≤ 200) (h : At w p g xs) :
    Calls Try.prog 37 #[.pointer (some ⟨p, 0, none⟩), .int .i64 k] w fun e w' => e = .returned (.int .i64 ((count xs k : Nat) : Int)) ∧ Keeps (fun _ => False) w w' := by
  have c0 := h.B.cellAt (i := 0) rfl
  obtain ⟨n, hn⟩ : ∃ n, n = xs.length := ⟨_, rfl⟩
  rw [← hn] at c0 hl
  have HN := Lib.hid hn
  clear hn
  have K := Keeps.refl (fun _ => False) w
  go_enter Try.func37, Try.ntmps37
  go_wp2_with fail
  go_loopw [5, 13] (fun m i wr => ∃ j : Nat, j ≤ n ∧ i = .int .i64 j ∧ m = .int .i64 ((count (xs.take j) k : Nat) : Int) ∧ Keeps (fun _ => False) w wr) (fun _ i _ => n - (intOf i).toNat)
  case atStart => exact ⟨0, by omega, rfl, rfl, K⟩
  case round =>
    obtain ⟨j, hj, rfl, rfl, HK⟩ := hrel
    have hcl : count (xs.take j) k ≤ j := Nat.le_trans (count_le _ _) (List.length_take_le _ _)
    by_cases hlt : j < n
    · have hx : xs[j]? = some (xs[j]'(by have := HN.out; omega)) := List.getElem?_eq_getElem _
      obtain ⟨f, hf⟩ : ∃ f, xs[j]? = some f := ⟨_, hx⟩
      clear hx
      have HA := h.none HK
      obtain ⟨d0, d1⟩ := HA.cell hf
      have HF := Lib.hid hf
      have HC := Lib.hid (count_snoc (xs.take j) f k)
      clear hf
      go_wp2_with fail
      · have ht : (f.k == k) = true := by assumption
        go_roundw
        case rel => exact ⟨j + 1, by omega, by go_num, by rw [take_next HF.out, HC.out, ht]; go_num, HK.alloc _⟩
        case measure => simp [intOf]; omega
      · have ht : (f.k == k) = false := by assumption
        go_roundw
        case rel => exact ⟨j + 1, by omega, by go_num, by rw [take_next HF.out, HC.out, ht]; go_num, HK.alloc _⟩
        case measure => simp [intOf]; omega
    · go_wp2_with fail
      go_ret
      exact ⟨by rw [List.take_of_length_le (by have := HN.out; omega)]; rfl, HK⟩
/-- The places of those of which nothing has become. -/
def openL (xs : List Fa) : List Int := ((List.range xs.length).filter fun i => (xs[i]?.map Fa.k) == some 0).map fun (i : Nat) => (i : Int)
theorem openL_le (xs : List Fa) : (openL xs).length ≤ xs.length := by
  unfold openL
  rw [List.length_map]
  exact Nat.le_trans (List.length_filter_le _ _) (by simp)
theorem openL_snoc (xs : List Fa) (f : Fa) : openL (xs ++ [f]) = openL xs ++ if f.k == 0 then [(xs.length : Int)] else [] := by
  unfold openL
  rw [List.length_append, List.length_singleton, List.range_succ, List.filter_append, List.map_append]
  congr 1
  · congr 1
    apply List.filter_congr
    intro i hi
    rw [List.getElem?_append_left (by simpa using hi)]
  · by_cases h : f.k = 0 <;> simp [List.filter_cons, h]
set_option maxRecDepth 100000 in
set_option maxHeartbeats 2000000 in
theorem open_any (p g : Nat) (xs : List Fa) (w : World) (hl : xs.length ≤ 200) (h : At w p g xs) :
    Calls Try.prog 19 #[.pointer (some ⟨p, 0, none⟩)] w fun e w' => ∃ A c, e = .returned (.slice A (openL xs).length c) ∧ Has w' 3 1 (.slice A (openL xs).length c) (openL xs).length ((openL xs).map (Value.int .i64)) ∧ Keeps (fun _ => False) w w' := by
  obtain ⟨i0, hi0, hz0, hz1, hz2⟩ := info_parts infoI
  have c0 := h.B.cellAt (i := 0) rfl
  obtain ⟨n, hn⟩ : ∃ n, n = xs.length := ⟨_, rfl⟩
  rw [← hn] at c0 hl
  have HN := Lib.hid hn
  clear hn
  have K := Keeps.refl (fun _ => False) w
  go_enter Try.func19, Try.ntmps19
  go_wp2_with fail
  go_loopw [3, 11] (fun v i wr => ∃ j : Nat, j ≤ n ∧ i = .int .i64 j ∧ wr.ownsRow w.heap.size 3 1 v (openL (xs.take j)).length ((openL (xs.take j)).map (Value.int .i64)) ∧ Keeps (fun _ => False) w wr) (fun _ i _ => n - (intOf i).toNat)
  case atStart => exact ⟨0, by omega, rfl, World.ownsRow_nil _ _ _ _, K⟩
  case round =>
    obtain ⟨j, hj, rfl, HO, HK⟩ := hrel
    have hcl : (openL (xs.take j)).length ≤ j := Nat.le_trans (openL_le _) (List.length_take_le _ _)
    by_cases hlt : j < n
    · obtain ⟨f, hf⟩ : ∃ f, xs[j]? = some f := ⟨_, List.getElem?_eq_getElem (by have := HN.out; omega)⟩
      have HA := h.none HK
      obtain ⟨d0, d1⟩ := HA.cell hf
      have htl : (xs.take j).length = j := by rw [List.length_take]; have := HN.out; omega
      have hos := openL_snoc (xs.take j) f
      rw [htl] at hos
      have HF := Lib.hid hf
      have HC := Lib.hid hos
      clear hf htl hos
      obtain ⟨zs, hzs⟩ : ∃ zs, zs = openL (xs.take j) := ⟨_, rfl⟩
      rw [← hzs] at HO hcl HC
      clear hzs
      have hsz := HK.size
      by_cases hk : f.k = 0
      · have hkb : (f.k == 0) = true := by simp [hk]
        clear hk
        rw [hkb] at HC
        go_wp2_with (at_builtin; refine wpList_append_has rfl (.tmp 19) (.tmp 21) 37 rfl i0 _ 8 Try.underlying37 hi0 hz0 hz1 hz2 rfl (by omega) rfl ((HO.alloc _).alloc _) (some ⟨wr.heap.size + 1, 0, none⟩) 1 1 [.int .i64 (j : Int)] rfl (by have := Has.box (wr.alloc (.cells #[.int .i64 f.k, .int .i64 f.t] 34)) 3 1 1 [.int .i64 (j : Int)] rfl (by unfold maxLen; omega); simpa using this) (ints_one .i64 [(j : Int)]) (by unfold maxLen; omega) (by omega) (by simp; omega) ?_; intro v1 w1 own1 g1 at1)
        have K1 : Keeps (fun _ => False) w w1 := keeps_grown ((HK.alloc _).alloc _) g1 (fun k hk => .inr (HO.lt k hk).1)
        clear g1 at1
        go_wp2_with fail
        go_roundw
        case rel => exact ⟨j + 1, by omega, by go_num, by rw [take_next HF.out, HC.out]; simpa using own1, K1⟩
        case measure => simp [intOf]; omega
      · have hkb : (f.k == 0) = false := by simp [hk]
        clear hk
        rw [hkb] at HC
        go_wp2_with fail
        go_roundw
        case rel => exact ⟨j + 1, by omega, by go_num, by rw [take_next HF.out, HC.out]; simpa using HO.alloc _, HK.alloc _⟩
        case measure => simp [intOf]; omega
    · rw [List.take_of_length_le (by have := HN.out; omega)] at HO
      obtain ⟨A, c, hv⟩ := own_shape HO
      subst hv
      have HH := Has.of_own HO
      go_wp2_with fail
      go_ret
      exact ⟨A, c, rfl, HH, HK⟩
theorem cells_one (xs : List Fa) : ∀ u ∈ xs.flatMap cf, u.oneCell' = true := by
  intro u hu
  obtain ⟨f, _, hf⟩ := List.mem_flatMap.1 hu
  simp [cf] at hf
  rcases hf with rfl | rfl <;> rfl
set_option maxRecDepth 100000 in
set_option maxHeartbeats 1000000 in
theorem clone_any (A : Option Addr) (c : Nat) (xs : List Fa) (w : World) (hl : xs.length ≤ 200) (hA : A ≠ none) (h : Has w 34 2 (.slice A xs.length c) xs.length (xs.flatMap cf)) :
    Calls Try.prog 60 #[.slice A xs.length c] w fun e w' => ∃ A' c', e = .returned (.slice A' xs.length c') ∧ Has w' 34 2 (.slice A' xs.length c') xs.length (xs.flatMap cf) ∧ (∀ g o, A' = some ⟨g, o, none⟩ → w.heap.size ≤ g) ∧ Keeps (fun _ => False) w w' := by
  obtain ⟨i0, hi0, hz0, hz1, hz2⟩ := info_parts infoF
  obtain ⟨ad, rfl⟩ : ∃ ad, A = some ad := by cases A with | none => exact absurd rfl hA | some ad => exact ⟨ad, rfl⟩
  have hnil := fun (W : World) (a : Option Addr) (n c n' c' : Nat) => Lib.run_eql_slice_nil (P := Try.prog) W 73 34 a n c n' c' Try.underlying73
  clear hA
  go_enter Try.func60, Try.ntmps60
  go_wp2_with (at_builtin; refine wpList_append_has rfl (.tmp 5) (.tmp 6) 73 rfl i0 _ 16 Try.underlying73 hi0 hz0 hz1 hz2 rfl (by omega) rfl (own_empty w w.heap.size 34 2 (Nat.le_refl _)) (some ad) xs.length c (xs.flatMap cf) rfl (h.kept ((Keeps.refl (fun _ => False) _).alloc _) (fun _ _ _ _ h => h)) (cells_one _) (by unfold maxLen; omega) (by omega) (by simp) ?_; intro v1 w1 own1 g1 at1)
  have K1 : Keeps (fun _ => False) w w1 := keeps_grown ((Keeps.refl _ _).alloc _) g1 (fun g h => .inr (Nat.le_of_eq (slice_block h)))
  simp only [Nat.zero_add, List.nil_append] at own1
  obtain ⟨A2, c2, hv2⟩ := own_shape own1
  subst hv2
  have HH := Has.of_own own1
  have hb : ∀ g o, A2 = some ⟨g, o, none⟩ → w.heap.size ≤ g := fun g o he => (own1.lt g (by rw [he]; rfl)).1
  clear own1 g1 at1
  go_wp2_with fail
  go_ret
  exact ⟨A2, c2, rfl, HH, hb, K1⟩
theorem all_any (p g : Nat) (xs : List Fa) (w : World) (hl : xs.length ≤ 200) (h : At w p g xs) :
    Calls Try.prog 38 #[.pointer (some ⟨p, 0, none⟩)] w fun e w' => ∃ A' c', e = .returned (.slice A' xs.length c') ∧ Has w' 34 2 (.slice A' xs.length c') xs.length (xs.flatMap cf) ∧ (∀ g o, A' = some ⟨g, o, none⟩ → w.heap.size ≤ g) ∧ Keeps (fun _ => False) w w' := by
  have c0 := h.B.cellAt (i := 0) rfl
  have hh : Has w 34 2 (.slice (some ⟨g, 0, none⟩) xs.length xs.length) xs.length (xs.flatMap cf) :=
    ⟨flat_length cf_len xs, .inr ⟨g, 0, xs.length, (xs.flatMap cf).toArray, rfl, Nat.le_refl _, by unfold maxLen; omega, h.G, fun j u hu => by simpa using hu⟩⟩
  go_enter Try.func38, Try.ntmps38
  go_wp2_with fail
  refine (clone_any (some ⟨g, 0, none⟩) xs.length xs _ hl (by simp) hh).mono ?_
  rintro e w1 ⟨A', c', rfl, H1, H2, k1⟩
  go_wp2_with fail
  go_ret
  exact ⟨A', c', rfl, H1, H2, k1⟩
end Fate
end Go.Proofs.Ytpfhogbkbodfjaa
