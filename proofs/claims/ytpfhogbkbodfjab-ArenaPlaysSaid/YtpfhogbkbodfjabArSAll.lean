/- All, at the kind string; conditions: at most 1000 places. -/
import Derived.Test.YtpfhogbkbodfjabArS
namespace Go.Proofs.Ytpfhogbkbodfjab
open Go.RowKit
set_option linter.unusedVariables false
set_option linter.unusedSimpArgs false
namespace ArS
open Ar
/-- The places in which something is. -/
def handles (ps : List (APlace El)) : List (Nat × Int) := ((List.range ps.length).filter fun i => (ps[i]?.map APlace.on) == some true).map fun i => (i, ((ps[i]?.map APlace.g).getD 0))
def hf (h : Nat × Int) : List Value := [.int .i64 (h.1 : Int), .int .i64 h.2]
theorem hf_len (h : Nat × Int) : (hf h).length = 2 := rfl
theorem infoH : (Try.prog.info? 42).map (fun i => (i.zero, i.size, i.bytes)) = some (some (.agg #[.int .i64 0, .int .i64 0]), 2, 16) := by kernel_rfl
theorem handles_le (ps : List (APlace El)) : (handles ps).length ≤ ps.length := by
  unfold handles
  rw [List.length_map]
  exact Nat.le_trans (List.length_filter_le _ _) (by simp)
theorem handles_snoc (ps : List (APlace El)) (x : APlace El) : handles (ps ++ [x]) = handles ps ++ if x.on = true then [(ps.length, x.g)] else [] := by
  unfold handles
  rw [List.length_append, List.length_singleton, List.range_succ, List.filter_append, List.map_append]
  congr 1
  · have hfil : (List.range ps.length).filter (fun i => ((ps ++ [x])[i]?.map APlace.on) == some true) = (List.range ps.length).filter (fun i => (ps[i]?.map APlace.on) == some true) := by
      apply List.filter_congr
      intro i hi
      rw [List.getElem?_append_left (by simpa using hi)]
    rw [hfil]
    apply List.map_congr_left
    intro i hi
    have := (List.mem_filter.1 hi).1
    rw [List.getElem?_append_left (by simpa using this)]
  · by_cases h : x.on = true <;> simp [List.filter_cons, h]
theorem cells_two (l : List (Nat × Int)) : ∀ u ∈ l.flatMap hf, u.oneCell' = true := by
  intro u hu
  obtain ⟨f, _, hf'⟩ := List.mem_flatMap.1 hu
  simp [hf] at hf'
  rcases hf' with rfl | rfl <;> rfl
set_option maxRecDepth 100000 in
set_option maxHeartbeats 2000000 in
theorem all_any (p : Nat) (A : Option Addr) (c : Nat) (B : Option Addr) (d room : Nat) (ps : List (APlace El)) (fr : List Nat) (w : World) (h : At w p A c B d room ps fr) (hl : ps.length ≤ 1000) :
    Calls Try.prog 45 #[.pointer (some ⟨p, 0, none⟩)] w fun e w' => ∃ A' c', e = .returned (.slice A' (handles ps).length c') ∧ Has w' 42 2 (.slice A' (handles ps).length c') (handles ps).length ((handles ps).flatMap hf) ∧ (∀ g o, A' = some ⟨g, o, none⟩ → w.heap.size ≤ g) ∧ Keeps (fun _ => False) w w' := by
  obtain ⟨i0, hi0, hz0, hz1, hz2⟩ := info_parts infoH
  have c1 := h.Bl.cellAt (i := 1) rfl
  obtain ⟨n, hn⟩ : ∃ n, n = ps.length := ⟨_, rfl⟩
  rw [← hn] at c1 hl
  have HN := Lib.hid hn
  clear hn
  have K := Keeps.refl (fun _ => False) w
  go_enter Try.func45, Try.ntmps45
  go_wp2_with fail
  go_loopw [3, 11] (fun v i wr => ∃ j : Nat, j ≤ n ∧ i = .int .i64 j ∧ wr.ownsRow w.heap.size 42 2 v (handles (ps.take j)).length ((handles (ps.take j)).flatMap hf) ∧ Keeps (fun _ => False) w wr) (fun _ i _ => n - (intOf i).toNat)
  case atStart => exact ⟨0, by omega, rfl, World.ownsRow_nil _ _ _ _, K⟩
  case round =>
    clear K c1
    obtain ⟨j, hj, rfl, HO, HK⟩ := hrel
    have hcl : (handles (ps.take j)).length ≤ j := Nat.le_trans (handles_le _) (List.length_take_le _ _)
    by_cases hlt : j < n
    · obtain ⟨x, hx⟩ : ∃ x, ps[j]? = some x := ⟨_, List.getElem?_eq_getElem (by have := HN.out; omega)⟩
      have HA := h.stay HK
      obtain ⟨ga, rfl, hap, d0, d1, d2⟩ := HA.place hx
      have htl : (ps.take j).length = j := by rw [List.length_take]; have := HN.out; omega
      have hos := handles_snoc (ps.take j) x
      rw [htl] at hos
      have HX := Lib.hid hx
      have HC := Lib.hid hos
      clear hx htl hos
      obtain ⟨zs, hzs⟩ : ∃ zs, zs = handles (ps.take j) := ⟨_, rfl⟩
      rw [← hzs] at HO hcl HC
      clear hzs
      have hsz := HK.size
      have hj0 : (0 : Int) ≤ (j : Int) := by omega
      have hj1 : (j : Int) < (n : Int) := by omega
      obtain ⟨xv, xg, xo⟩ := x
      dsimp only at *
      cases xo with
      | true =>
        rw [if_pos rfl] at HC
        go_wp2_with (at_builtin; refine wpList_append_has rfl (.tmp 18) (.tmp 23) 49 rfl i0 _ 16 Try.underlying49 hi0 hz0 hz1 hz2 rfl (by omega) rfl ((HO.alloc _).alloc _) (some ⟨wr.heap.size + 1, 0, none⟩) 1 1 [.int .i64 (j : Int), .int .i64 xg] rfl (by have := Has.box (wr.alloc (.cells #[.string xv, .int .i64 xg, .bool true] 126)) 42 2 1 [.int .i64 (j : Int), .int .i64 xg] rfl (by unfold maxLen; omega); simpa using this) (cells_two [(j, xg)]) (by unfold maxLen; omega) (by omega) (by simp; omega) ?_; intro v1 w1 own1 g1 at1)
        have K1 : Keeps (fun _ => False) w w1 := keeps_grown ((HK.alloc _).alloc _) g1 (fun k hk => .inr (HO.lt k hk).1)
        clear g1 at1
        go_wp2_with fail
        go_roundw
        case rel => exact ⟨j + 1, by omega, by go_num, by rw [take_next HX.out, HC.out]; simpa [hf] using own1, K1⟩
        case measure => simp [intOf]; omega
      | false =>
        rw [if_neg (by decide)] at HC
        go_wp2_with fail
        go_roundw
        case rel => exact ⟨j + 1, by omega, by go_num, by rw [take_next HX.out, HC.out]; simpa using HO.alloc _, HK.alloc _⟩
        case measure => simp [intOf]; omega
    · rw [List.take_of_length_le (by have := HN.out; omega)] at HO
      obtain ⟨A', c', hv⟩ := own_shape HO
      subst hv
      have Hres := Has.of_own HO
      have hb : ∀ g o, A' = some ⟨g, o, none⟩ → w.heap.size ≤ g := fun g o he => (HO.lt g (by rw [he]; rfl)).1
      go_wp2_with fail
      go_ret
      exact ⟨A', c', rfl, Hres, hb, HK⟩
end ArS
end Go.Proofs.Ytpfhogbkbodfjab
