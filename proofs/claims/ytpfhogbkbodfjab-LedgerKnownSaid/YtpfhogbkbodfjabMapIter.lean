/- A range over a map that the call made and that no round writes; conditions: none. -/
import Derived.Test.YtpfhogbkbodfjabMap
import Derived.Maps.RangeWalk
namespace Go.Proofs.Ytpfhogbkbodfjab
open Go.RowKit Go.MapKept Go.ChangeMaps
set_option linter.unusedVariables false
set_option linter.unusedSimpArgs false
section
variable {α : Type}
/-- A loop over map m of the pairs l is under way, by the iterator r: those at the keys in 'done' have come; cnt are to come. -/
def Iter (kv : α → Value) (w : World) (m r : Nat) (l : List (α × Value)) (done : List α) (cnt : Nat) : Prop :=
  ∃ es clock since seen c0, w.heap[m]? = some (.map es clock) ∧ Stamped es clock ∧ (l.map (·.1)).Nodup ∧ es.toList.map (fun (e : MapEntry) => (e.key, e.val)) = l.map (fun p => (kv p.1, p.2)) ∧
    w.heap[r]? = some (.mapIter (some m) since seen c0) ∧ (∀ x ∈ es.toList, x.born < since) ∧ since ≤ c0 ∧ since ≤ clock ∧ (leftOf es seen).size = cnt ∧
    ∀ (i : Nat) e p, es.toList[i]? = some e → l[i]? = some p → (seen.contains e.born = true ↔ p.1 ∈ done)
variable {P : Program} {kv : α → Value} {w w' : World} {m r cnt : Nat} {l : List (α × Value)} {done : List α} {S : Nat → Prop} {T K E : TypeId}
theorem Iter.left_eq (h : Iter kv w m r l done cnt) : w.rangeLeft m r = cnt := by
  obtain ⟨es, clock, since, seen, c0, hb, _, _, _, hr, _, _, _, hc, _⟩ := h
  simp only [World.rangeLeft, hb, hr]
  exact hc
theorem Iter.map (h : Iter kv w m r l done cnt) : MapIs kv w m l := by
  obtain ⟨es, clock, since, seen, c0, hb, hs, hn, he, _⟩ := h
  exact ⟨es, clock, hb, hs, hn, he⟩
theorem Iter.lt (h : Iter kv w m r l done cnt) : r < w.heap.size := by
  obtain ⟨es, clock, since, seen, c0, _, _, _, _, hr, _⟩ := h
  exact (Array.getElem?_eq_some_iff.1 hr).1
theorem Iter.ne (h : Iter kv w m r l done cnt) : r ≠ m := by
  obtain ⟨es, clock, since, seen, c0, hb, _, _, _, hr, _⟩ := h
  intro e
  rw [e, hb] at hr
  cases hr
theorem Iter.kept (h : Iter kv w m r l done cnt) (k : Keeps S w w') (hm : ¬ S m) (hr : ¬ S r) : Iter kv w' m r l done cnt := by
  have h1 := h.map.lt
  have h2 := h.lt
  obtain ⟨es, clock, since, seen, c0, hb, hs, hn, he, hi, rest⟩ := h
  exact ⟨es, clock, since, seen, c0, (k.block m h1 hm).trans hb, hs, hn, he, (k.block r h2 hr).trans hi, rest⟩
theorem MapIs.range (h : MapIs kv w m l) (ht : P.underlying T = some (.map K E)) :
    ∃ w', (Instr.range T (.map (some m))).run P w = .ok (.pointer (some ⟨w.heap.size, 0, none⟩)) w' ∧ Iter kv w' m w.heap.size l [] l.length ∧ Keeps (fun _ => False) w w' ∧ w'.heap.size = w.heap.size + 1 := by
  have hlt := h.lt
  obtain ⟨es, clock, hb, hs, hn, he⟩ := h
  have hlen : es.size = l.length := by have := congrArg List.length he; simpa using this
  refine ⟨_, run_range_map w T K E m es clock ht hb, ⟨es, clock, clock, #[], clock, ((MapKept.heap_alloc w _).2 m hlt).trans hb, hs, hn, he, (MapKept.heap_alloc w _).1, ((stamped_iff es clock).1 hs).1, Nat.le_refl _, Nat.le_refl _, ?_, ?_⟩, (Keeps.refl _ w).alloc _, by simp⟩
  · unfold leftOf
    rw [Array.filter_eq_self.2 (fun x _ => by simp)]
    exact hlen
  · intro i e p _ _
    simp
theorem Iter.next (h : Iter kv w m r l done cnt) (inj : ∀ a b, kv a = kv b → a = b) (ty : TypeId) :
    ((∀ p ∈ l, p.1 ∈ done) ∧ (Instr.next (.pointer (some ⟨r, 0, none⟩)) false ty).run P w = .ok (.tuple #[.bool false]) w) ∨
    ∃ p w' cnt', p ∈ l ∧ p.1 ∉ done ∧ (Instr.next (.pointer (some ⟨r, 0, none⟩)) false ty).run P w = .ok (.tuple #[.bool true, kv p.1, p.2]) w' ∧
      Iter kv w' m r l (p.1 :: done) cnt' ∧ cnt' < cnt ∧ Keeps (· = r) w w' ∧ w'.heap.size = w.heap.size ∧ (Instr.entry (.pointer (some ⟨r, 0, none⟩))).run P w' = .ok (.tuple #[kv p.1, p.2]) w' := by
  have hne := h.ne
  obtain ⟨es, clock, since, seen, c0, hb, hs, hn, he, hr, hold, hsc, hsk, rfl, hd⟩ := h
  have hst := (stamped_iff es clock).1 hs
  have hlen : es.toList.length = l.length := by have := congrArg List.length he; simpa using this
  have hat : ∀ (j : Nat) (e : MapEntry), es.toList[j]? = some e → ∃ p : α × Value, l[j]? = some p ∧ e.key = kv p.1 ∧ e.val = p.2 := by
    intro j e hj
    have h1 : (es.toList.map (fun (e : MapEntry) => (e.key, e.val)))[j]? = some (e.key, e.val) := by rw [List.getElem?_map, hj]; rfl
    rw [he, List.getElem?_map] at h1
    cases hp : l[j]? with
    | none => rw [hp] at h1; cases h1
    | some p =>
      rw [hp] at h1
      simp at h1
      exact ⟨p, rfl, h1.1.symm, h1.2.symm⟩
  rcases run_next_at (P := P) w ty r m since c0 seen es clock hr hb hold hsc with ⟨h0, hrun⟩ | ⟨e, hel, w1, hal, hrun⟩
  · refine .inl ⟨fun p hp => ?_, hrun⟩
    obtain ⟨j, hj⟩ := List.getElem?_of_mem hp
    have hjl : j < es.toList.length := by rw [hlen]; exact (List.getElem?_eq_some_iff.1 hj).1
    exact (hd j _ p (List.getElem?_eq_getElem hjl) hj).1 (all_seen es seen h0 _ (List.getElem_mem hjl))
  · obtain ⟨hem, hes⟩ := mem_left hel
    obtain ⟨j, hj⟩ := List.getElem?_of_mem hem
    obtain ⟨p, hp, hk, hv⟩ := hat j e hj
    have hr1 : w1.heap[r]? = some (.mapIter (some m) since seen c0) := by rcases hal with rfl | rfl <;> exact hr
    have hb1 : w1.heap[m]? = some (.map es clock) := by rcases hal with rfl | rfl <;> exact hb
    have hset := heap_set (o' := .mapIter (some m) since (seen.push e.born) clock) hr1
    have hb' : (setBlock w1 r (.mapIter (some m) since (seen.push e.born) clock)).heap[m]? = some (.map es clock) := (hset.2 m (fun e1 => hne e1.symm)).trans hb1
    refine .inr ⟨p, _, _, List.mem_of_getElem? hp, fun hin => ?_, by rw [hrun, hk, hv], ⟨es, clock, since, seen.push e.born, clock, hb', hs, hn, he, hset.1, hold, hsk, hsk, rfl, ?_⟩, left_shrinks es seen e hel, ?_, ?_, ?_⟩
    · have := (hd j e p hj hp).2 hin
      rw [this] at hes
      cases hes
    · intro i x q hi hq
      rw [contains_push, Bool.or_eq_true, hd i x q hi hq, List.mem_cons, beq_iff_eq]
      constructor
      · rintro (h | h)
        · exact .inr h
        · refine .inl (inj _ _ ?_)
          have hxe : x = e := born_inj hst.2.1 (List.mem_of_getElem? hi) hem h
          obtain ⟨q', hq', hk', _⟩ := hat i x hi
          rw [hq] at hq'
          cases hq'
          rw [← hk', ← hk, hxe]
      · rintro (h | h)
        · refine .inr ?_
          obtain ⟨q', hq', hk', _⟩ := hat i x hi
          rw [hq] at hq'
          cases hq'
          exact congrArg MapEntry.born (entry_eq_of_key hst.2.2 (List.mem_of_getElem? hi) hem (by rw [hk', hk, h]))
        · exact .inl h
    · rcases hal with rfl | rfl <;> exact ⟨rfl, rfl, rfl, by simp [setBlock], fun i _ hi => hset.2 i (fun e1 => hi e1)⟩
    · rcases hal with rfl | rfl <;> simp [setBlock]
    · rw [run_entry_at _ r m since seen es clock e hset.1 hb' hem hst.2.1, hk, hv]
variable {ops : Array Oper} {rest : List Oper} {o : Oper} {a : Act} {Q : Exit → Act → World → Prop}
theorem wpList_range_is (h : MapIs kv w m l) (ht : P.underlying T = some (.map K E)) (hg : o.guard = none) (mo : Operand) (hop : o.op = Op.range T mo) (hm : a.eval mo = .map (some m))
    (hK : ∀ w', Iter kv w' m w.heap.size l [] l.length → Keeps (fun _ => False) w w' → w'.heap.size = w.heap.size + 1 → wpList P ops Q rest (a.put o.dst (.pointer (some ⟨w.heap.size, 0, none⟩))) w') :
    wpList P ops Q (o :: rest) a w := by
  refine wpList_plain hg fun K' hK' => ?_
  obtain ⟨w', hrun, r1, r2, r3⟩ := h.range (P := P) ht
  unfold Oper.wp
  simp [execOp, hop, hm, hrun, Result.andThen]
  exact hK' _ _ (hK w' r1 r2 r3)
theorem wpList_next_is (h : Iter kv w m r l done cnt) (inj : ∀ a b, kv a = kv b → a = b) (hg : o.guard = none) (it : Operand) (hop : o.op = Op.next it false) (hit : a.eval it = .pointer (some ⟨r, 0, none⟩))
    (hDone : (∀ p ∈ l, p.1 ∈ done) → wpList P ops Q rest (a.put o.dst (.tuple #[.bool false])) w)
    (hMore : ∀ p w' cnt', p ∈ l → p.1 ∉ done → Iter kv w' m r l (p.1 :: done) cnt' → cnt' < cnt → Keeps (· = r) w w' → w'.heap.size = w.heap.size →
      (Instr.entry (.pointer (some ⟨r, 0, none⟩))).run P w' = .ok (.tuple #[kv p.1, p.2]) w' → wpList P ops Q rest (a.put o.dst (.tuple #[.bool true, kv p.1, p.2])) w') :
    wpList P ops Q (o :: rest) a w := by
  refine wpList_plain hg fun K' hK' => ?_
  unfold Oper.wp
  rcases h.next (P := P) inj o.type with ⟨h0, hrun⟩ | ⟨p, w', cnt', h1, h2, hrun, h3, h4, h5, h6, h7⟩
  · simp [execOp, hop, hit, hrun, Result.andThen]
    exact hK' _ _ (hDone h0)
  · simp [execOp, hop, hit, hrun, Result.andThen]
    exact hK' _ _ (hMore p w' cnt' h1 h2 h3 h4 h5 h6 h7)
end
end Go.Proofs.Ytpfhogbkbodfjab
