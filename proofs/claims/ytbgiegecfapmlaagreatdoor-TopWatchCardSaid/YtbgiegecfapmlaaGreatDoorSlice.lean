/- Words for slices that the call made: read, cut, appended to; conditions: none. -/
import Derived.Test.YtbgiegecfapmlaaGreatDoorBase
import Derived.Maps.AppendAt
import Derived.Laws.AppendOwnNone
import Derived.Laws.MakeOwn
import Derived.OwnWalk
namespace Go.Proofs.YtbgiegecfapmlaaGreatDoor
open Go.RowKit
set_option linter.unusedVariables false
set_option linter.unusedSimpArgs false

/-- The slice value v, of n elements of type e, 'size' cells each, reads as the cells cs; nothing is said of its room. -/
def Has (w : World) (e : TypeId) (size : Nat) (v : Value) (n : Nat) (cs : List Value) : Prop :=
  cs.length = n * size ∧ ((v = .slice none 0 0 ∧ n = 0) ∨
    ∃ g off cap cur, v = .slice (some ⟨g, off, none⟩) n cap ∧ n ≤ cap ∧ cap ≤ maxLen ∧ w.heap[g]? = some (.cells cur e (0, 0)) ∧ ∀ j u, cs[j]? = some u → cur[off + j]? = some u)

section
variable {w w' : World} {e : TypeId} {size n : Nat} {v : Value} {cs : List Value} {S : Nat → Prop}
theorem Has.nil (w : World) (e : TypeId) (size : Nat) : Has w e size (.slice none 0 0) 0 [] := ⟨by simp, .inl ⟨rfl, rfl⟩⟩
theorem Has.of_own {base : Nat} (h : w.ownsRow base e size v n cs) : Has w e size v n cs := by
  refine ⟨h.1, ?_⟩
  rcases h.2 with h0 | ⟨g, cap, cur, rfl, _, hg, hnc, hcm, hcs, htake⟩
  · exact .inl h0
  · refine .inr ⟨g, 0, cap, cur, rfl, hnc, hcm, hg, fun j u hu => ?_⟩
    rw [← htake, List.getElem?_take] at hu
    split at hu
    · simpa using hu
    · cases hu
theorem Has.kept (h : Has w e size v n cs) (k : Keeps S w w') (hS : ∀ g cur, w.heap[g]? = some (.cells cur e (0, 0)) → v.ownBlock = some g → ¬ S g) : Has w' e size v n cs := by
  refine ⟨h.1, ?_⟩
  rcases h.2 with h0 | ⟨g, off, cap, cur, rfl, hnc, hcm, hg, hc⟩
  · exact .inl h0
  · have hlt : g < w.heap.size := (Array.getElem?_eq_some_iff.1 hg).1
    exact .inr ⟨g, off, cap, cur, rfl, hnc, hcm, (k.block g hlt (hS g cur hg rfl)).trans hg, hc⟩
theorem Has.shape (h : Has w e size v n cs) : ∃ A c, v = .slice A n c := by
  rcases h.2 with ⟨rfl, rfl⟩ | ⟨g, off, cap, cur, rfl, _⟩
  · exact ⟨_, _, rfl⟩
  · exact ⟨_, _, rfl⟩
theorem Has.len (h : Has w e size v n cs) : n ≤ 9223372036854775807 := by
  rcases h.2 with ⟨_, rfl⟩ | ⟨g, off, cap, cur, rfl, hnc, hcm, _⟩
  · omega
  · unfold maxLen at hcm; omega
/-- Where an element is asked for, there is an address. -/
theorem Has.at_ {A : Option Addr} {c : Nat} (h : Has w e size (.slice A n c) n cs) (hn : 0 < n) :
    ∃ g off, A = some ⟨g, off, none⟩ ∧ ∀ j u, cs[j]? = some u → w.cell? ⟨g, off + j, none⟩ = some u := by
  rcases h.2 with ⟨_, h0⟩ | ⟨g, off, cap, cur, hv, hnc, hcm, hg, hc⟩
  · omega
  · injection hv with hA _ hcap
    refine ⟨g, off, hA, fun j u hu => ?_⟩
    rw [cell_of_row w g (off + j) cur e (0, 0) hg]
    exact hc j u hu
/-- 's[k:]'. -/
theorem Has.cut {A : Option Addr} {c k : Nat} (h : Has w e size (.slice A n c) n cs) (hk : k ≤ n) :
    Has w e size (.slice (if c = k then A else A.map (·.add (k * size))) (n - k) (c - k)) (n - k) (cs.drop (k * size)) := by
  refine ⟨by rw [List.length_drop, h.1, Nat.sub_mul], ?_⟩
  rcases h.2 with ⟨hv, h0⟩ | ⟨g, off, cap, cur, hv, hnc, hcm, hg, hc⟩
  · injection hv with hA hn hc
    subst hA hc
    refine .inl ⟨?_, by omega⟩
    have hk0 : k = 0 := by omega
    subst hk0
    simp [h0]
  · injection hv with hA _ hcap
    subst hA hcap
    by_cases hck : c = k
    · rw [if_pos hck]
      refine .inr ⟨g, off, c - k, cur, rfl, by omega, by omega, hg, fun j u hu => ?_⟩
      have hlen := (List.getElem?_eq_some_iff.1 hu).1
      rw [List.length_drop, h.1] at hlen
      have : n = k := by omega
      subst this
      omega
    · rw [if_neg hck]
      refine .inr ⟨g, off + k * size, c - k, cur, ?_, by omega, by omega, hg, fun j u hu => ?_⟩
      · by_cases hz : k * size = 0
        · simp [Addr.add, hz]
        · simp [Addr.add, hz]
      · rw [List.getElem?_drop] at hu
        rw [Nat.add_assoc]
        exact hc _ u hu
end

section
variable {P : Program} {w : World} {base : Nat} {e : TypeId} {size : Nat} {v : Value} {n : Nat} {xs : List Value}
theorem own_kept {w' : World} {S : Nat → Prop} (h : w.ownsRow base e size v n xs) (k : Keeps S w w') (hS : ∀ g cur, w.heap[g]? = some (.cells cur e (0, 0)) → v.ownBlock = some g → ¬ S g) : w'.ownsRow base e size v n xs := by
  refine ⟨h.1, ?_⟩
  rcases h.2 with h0 | ⟨g, cap, cur, rfl, hb, hg, hr⟩
  · exact .inl h0
  · have hlt : g < w.heap.size := (Array.getElem?_eq_some_iff.1 hg).1
    exact .inr ⟨g, cap, cur, rfl, hb, (k.block g hlt (hS g cur hg rfl)).trans hg, hr⟩
theorem own_shape (h : w.ownsRow base e size v n xs) : ∃ A c, v = .slice A n c := by
  rcases h.2 with ⟨rfl, rfl⟩ | ⟨g, cap, cur, rfl, _⟩
  · exact ⟨_, _, rfl⟩
  · exact ⟨_, _, rfl⟩
/-- A row of elements of type e is none of the blocks of another type. -/
theorem own_ne {g : Nat} {t : TypeId} {cs : List Value} (hg : Blk w g t cs) (hne : e ≠ t) : ∀ g' cur, w.heap[g']? = some (.cells cur e (0, 0)) → g' ≠ g := by
  rintro g' cur h rfl
  unfold Blk at hg
  rw [h] at hg
  injection hg with hg
  injection hg with _ ht
  exact hne ht
theorem run_append_of_none (t ty : TypeId) (i : TypeInfo) (ht : P.underlying t = some (.slice e)) (hi : P.info? e = some i) (hown : w.ownsRow base e size v n xs) (c : Nat) :
    (Builtin.append_ #[t, t] ty #[v, .slice none 0 c]).run P w = .ok v w := by
  rcases hown.2 with ⟨rfl, rfl⟩ | ⟨g, cap, cur, rfl, _, _, hnc, _⟩
  · simp [Builtin.append_, run_underlying ht, sizeOf, typeInfo, hi, Builtin.lenOf, Builtin.firstCells]
  · simp [Builtin.append_, run_underlying ht, sizeOf, typeInfo, hi, Builtin.lenOf, Builtin.firstCells, hnc, storeCells]

/-- append(v, x...): v the call's own, x whatever reads as news. -/
theorem run_append_has (t ty : TypeId) (i : TypeInfo) (z : Value) (bytes : Nat) (ht : P.underlying t = some (.slice e)) (hi : P.info? e = some i) (hz : i.zero = some z)
    (hsize : i.size = size) (hby : i.bytes = bytes) (hzs : z.cells.size = size) (hsz : 0 < size) (hown : w.ownsRow base e size v n xs)
    (A : Option Addr) (m c : Nat) (news : List Value) (hr : Has w e size (.slice A m c) m news) (h1 : ∀ u ∈ news, u.oneCell' = true)
    (h63 : n + m ≤ maxLen) (hbytes : (n + m) * bytes ≤ 140737488355328) (hbase : base ≤ w.heap.size) :
    ∃ v' w', (Builtin.append_ #[t, t] ty #[v, .slice A m c]).run P w = .ok v' w' ∧ w'.ownsRow base e size v' (n + m) (xs ++ news) ∧ w.grownBy w' v.ownBlock ∧
      (v'.ownBlock = v.ownBlock ∨ v'.ownBlock = some w.heap.size) := by
  rcases hr.2 with ⟨hv, h0⟩ | ⟨g, off, cap, cur, hv, hnc, hcm, hg, hc⟩
  · injection hv with hA hm hc
    subst hA hm hc
    have hn : news = [] := List.eq_nil_of_length_eq_zero (by simpa using hr.1)
    subst hn
    exact ⟨v, w, run_append_of_none t ty i ht hi hown _, by simpa using hown, World.grownBy.refl w _, .inl rfl⟩
  · injection hv with hA _ hcap
    subst hA hcap
    obtain ⟨v', w', hrun, h2, h3, _, h5⟩ := run_append_own_at (P := P) w base t ty e i z size bytes ht hi hz hsize hby hzs hsz v n xs hown ⟨g, off, none⟩ m c news hr.1 (fun j u hu => by
      have ha : (⟨g, off, none⟩ : Addr).add j = ⟨g, off + j, none⟩ := by unfold Addr.add; split <;> simp_all
      rw [ha, cell_of_row w g (off + j) cur e (0, 0) hg]
      exact hc j u hu) h1 h63 hbytes hbase
    exact ⟨v', w', hrun, h2, h3, h5⟩
theorem wp_append_has {o : Oper} {a : Act} {K : Act → World → Prop} {Q : Exit → Act → World → Prop} (s x : Operand) (t : TypeId)
    (ho : o.op = .call { callee := .builtin .append, args := #[s, x], argTypes := #[t, t] })
    (i : TypeInfo) (z : Value) (bytes : Nat) (ht : P.underlying t = some (.slice e)) (hi : P.info? e = some i) (hz : i.zero = some z)
    (hsize : i.size = size) (hby : i.bytes = bytes) (hzs : z.cells.size = size) (hsz : 0 < size) (hs : a.eval s = v) (hown : w.ownsRow base e size v n xs)
    (A : Option Addr) (m c : Nat) (news : List Value) (hx : a.eval x = .slice A m c) (hr : Has w e size (.slice A m c) m news) (h1 : ∀ u ∈ news, u.oneCell' = true)
    (h63 : n + m ≤ maxLen) (hbytes : (n + m) * bytes ≤ 140737488355328) (hbase : base ≤ w.heap.size)
    (h : ∀ v' w', w'.ownsRow base e size v' (n + m) (xs ++ news) → w.grownBy w' v.ownBlock → (v'.ownBlock = v.ownBlock ∨ v'.ownBlock = some w.heap.size) → K (a.put o.dst v') w') : o.wp P a w K Q := by
  obtain ⟨v', w', hrun, h2, h3, h4⟩ := run_append_has (P := P) t o.type i z bytes ht hi hz hsize hby hzs hsz hown A m c news hr h1 h63 hbytes hbase
  unfold Oper.wp execOp
  simp only [ho, resolve, invoke, builtin, Sem.run_bind, Sem.run_pure, Result.andThen_ok, List.map_toArray, List.map_cons, List.map_nil, hs, hx, hrun]
  exact h v' w' h2 h3 h4
theorem wpList_append_has {ops : Array Oper} {rest : List Oper} {o : Oper} {a : Act} {Q : Exit → Act → World → Prop} (hgd : o.guard = none) (s x : Operand) (t : TypeId)
    (ho : o.op = .call { callee := .builtin .append, args := #[s, x], argTypes := #[t, t] })
    (i : TypeInfo) (z : Value) (bytes : Nat) (ht : P.underlying t = some (.slice e)) (hi : P.info? e = some i) (hz : i.zero = some z)
    (hsize : i.size = size) (hby : i.bytes = bytes) (hzs : z.cells.size = size) (hsz : 0 < size) (hs : a.eval s = v) (hown : w.ownsRow base e size v n xs)
    (A : Option Addr) (m c : Nat) (news : List Value) (hx : a.eval x = .slice A m c) (hr : Has w e size (.slice A m c) m news) (h1 : ∀ u ∈ news, u.oneCell' = true)
    (h63 : n + m ≤ maxLen) (hbytes : (n + m) * bytes ≤ 140737488355328) (hbase : base ≤ w.heap.size)
    (h : ∀ v' w', w'.ownsRow base e size v' (n + m) (xs ++ news) → w.grownBy w' v.ownBlock → (v'.ownBlock = v.ownBlock ∨ v'.ownBlock = some w.heap.size) → wpList P ops Q rest (a.put o.dst v') w') :
    wpList P ops Q (o :: rest) a w :=
  wpList_plain hgd fun _ hK => wp_append_has s x t ho i z bytes ht hi hz hsize hby hzs hsz hs hown A m c news hx hr h1 h63 hbytes hbase fun v' w' h2 h3 h4 => hK _ _ (h v' w' h2 h3 h4)
theorem step_append_has {ops : Array Oper} {o : Oper} {a : Act} {K : Act → World → Prop} {Q : Exit → Act → World → Prop} {E : Prop} (hgd : o.guard = none) (s x : Operand) (t : TypeId)
    (ho : o.op = .call { callee := .builtin .append, args := #[s, x], argTypes := #[t, t] })
    (i : TypeInfo) (z : Value) (bytes : Nat) (ht : P.underlying t = some (.slice e)) (hi : P.info? e = some i) (hz : i.zero = some z)
    (hsize : i.size = size) (hby : i.bytes = bytes) (hzs : z.cells.size = size) (hsz : 0 < size) (hs : a.eval s = v) (hown : w.ownsRow base e size v n xs)
    (A : Option Addr) (m c : Nat) (news : List Value) (hx : a.eval x = .slice A m c) (hr : Has w e size (.slice A m c) m news) (h1 : ∀ u ∈ news, u.oneCell' = true)
    (h63 : n + m ≤ maxLen) (hbytes : (n + m) * bytes ≤ 140737488355328) (hbase : base ≤ w.heap.size)
    (h : ∀ v' w', w'.ownsRow base e size v' (n + m) (xs ++ news) → w.grownBy w' v.ownBlock → (v'.ownBlock = v.ownBlock ∨ v'.ownBlock = some w.heap.size) → K (a.put o.dst v') w') :
    if Region.wanted o (yielded ops a.tmps) = true then Oper.wp P o a w K Q else E := by
  have hw : Region.wanted o (yielded ops a.tmps) = true := by simp [Region.wanted, hgd]
  rw [if_pos hw]
  exact wp_append_has s x t ho i z bytes ht hi hz hsize hby hzs hsz hs hown A m c news hx hr h1 h63 hbytes hbase h
/-- A new block, whole, as a slice. -/
theorem Has.box (w : World) (e : TypeId) (size m : Nat) (cs : List Value) (hl : cs.length = m * size) (hm : m ≤ maxLen) : Has (w.alloc (.cells cs.toArray e)) e size (.slice (some ⟨w.heap.size, 0, none⟩) m m) m cs :=
  ⟨hl, .inr ⟨w.heap.size, 0, m, cs.toArray, rfl, Nat.le_refl _, hm, heap_alloc_new w _, fun j u hu => by simpa using hu⟩⟩
theorem own_empty (w : World) (base : Nat) (e : TypeId) (size : Nat) (hb : base ≤ w.heap.size) : (w.alloc (.cells #[] e)).ownsRow base e size (.slice (some ⟨w.heap.size, 0, none⟩) 0 0) 0 [] :=
  World.ownsRow_lit w #[] 0 hb (by unfold maxLen; omega) (by simp)
theorem keeps_grown {w0 w1 : World} {S : Nat → Prop} {row : Option Nat} (k : Keeps S w0 w) (hg : w.grownBy w1 row) (hs : ∀ g, row = some g → S g ∨ w0.heap.size ≤ g) : Keeps S w0 w1 :=
  ⟨hg.os.trans k.os, hg.tape.trans k.tape, hg.output.trans k.output, Nat.le_trans k.size hg.size, fun i hi hn => (hg.block i (Nat.lt_of_lt_of_le hi k.size) (fun h => by
    rcases hs i h.symm with h' | h'
    · exact hn h'
    · omega)).trans (k.block i hi hn)⟩
theorem Blk.grown {w1 : World} {g : Nat} {t : TypeId} {cs : List Value} {row : Option Nat} (h : Blk w g t cs) (hg : w.grownBy w1 row) (hne : row ≠ some g) : Blk w1 g t cs := (hg.block g h.lt (fun e => hne e.symm)).trans h
theorem own_type_ne {g : Nat} {t : TypeId} {cs : List Value} (h : w.ownsRow base e size v n xs) (hg : Blk w g t cs) (hne : e ≠ t) : v.ownBlock ≠ some g := by
  rcases h.2 with ⟨rfl, _⟩ | ⟨g', cap, cur, rfl, _, hh, _⟩
  · simp [Value.ownBlock]
  · intro he
    simp [Value.ownBlock] at he
    exact own_ne hg hne g' cur hh he
end
theorem bools_one (xs : List Bool) : ∀ u ∈ xs.map Value.bool, u.oneCell' = true := by
  intro u hu
  obtain ⟨b, _, rfl⟩ := List.mem_map.1 hu
  rfl
theorem ints_one (k : IntKind) (xs : List Int) : ∀ u ∈ xs.map (Value.int k), u.oneCell' = true := by
  intro u hu
  obtain ⟨b, _, rfl⟩ := List.mem_map.1 hu
  rfl
theorem slice_block {g o n c k : Nat} (h : (Value.slice (some ⟨g, o, none⟩) n c).ownBlock = some k) : g = k := Option.some.inj h
/-- 's[1:]' as the walk spells it. -/
theorem cut_first {w : World} {e : TypeId} {A : Option Addr} {n c : Nat} {x : Value} {cs : List Value} (h : Has w e 1 (.slice A (n + 1) c) (n + 1) (x :: cs)) :
    (c = 1 → Has w e 1 (.slice A n 0) n cs) ∧ (c ≠ 1 → Has w e 1 (.slice (A.map fun x => ⟨x.block, x.off + 1, none⟩) n (c - 1)) n cs) := by
  have h1 := h.cut (k := 1) (by omega)
  simp only [Nat.add_sub_cancel, Nat.one_mul, List.drop_one, List.tail_cons] at h1
  refine ⟨fun hc => ?_, fun hc => ?_⟩
  · subst hc; simpa using h1
  · rw [if_neg hc] at h1
    have e : (fun x : Addr => x.add 1) = fun x => ⟨x.block, x.off + 1, none⟩ := by funext x; simp [Addr.add]
    rw [e] at h1
    exact h1
end Go.Proofs.YtbgiegecfapmlaaGreatDoor
