/- Maps that the call makes, as lists of pairs; conditions: none. -/
import Derived.Test.YtbgiegecfapmlaaGreatDoorBase
import Derived.Maps.OwnOps
import Derived.Maps.OwnSet
import Derived.MapKept
namespace Go.Proofs.YtbgiegecfapmlaaGreatDoor
open Go.RowKit Go.MapKept
set_option linter.unusedVariables false
set_option linter.unusedSimpArgs false
/-- What the machine does with keys of type K, written 'kv a'. -/
structure KeyOk (P : Program) (K : TypeId) {α : Type} (kv : α → Value) : Prop where
  inj : ∀ a b, kv a = kv b → a = b
  check : ∀ (e : Bool) (a : α) (w : World), (Instr.checkKey e 10000 K (kv a)).run P w = .ok () w
  find : ∀ (l : List MapEntry) (a : α) (w : World), (∀ x ∈ l, ∃ b, x.key = kv b) →
    ((Instr.findKey K (kv a) l).run P w = .ok none w ∧ ∀ x ∈ l, x.key ≠ kv a) ∨ ∃ j e, (Instr.findKey K (kv a) l).run P w = .ok (some (j, e.val)) w ∧ l[j]? = some e ∧ e.key = kv a
  stays : ∀ (a : α) (w : World), (Instr.keyThatStays (kv a) (kv a)).run P w = .ok (kv a) w
theorem key_plain {P : Program} {K : TypeId} {d : TypeDesc} {α : Type} {kv : α → Value} (hd : P.underlying K = some d) (hk : ∀ a, IsKey d (kv a)) (inj : ∀ a b, kv a = kv b → a = b) : KeyOk P K kv where
  inj := inj
  check e a w := run_checkKey hd (hk a) e 9999
  find l a w h := by
    rcases findNow_spec (hk a) l 0 (fun x hx => by obtain ⟨b, hb⟩ := h x hx; rw [hb]; exact hk b) with ⟨h1, h2⟩ | ⟨j, e, h1, h2, h3⟩
    · exact .inl ⟨run_findKey hd h1, h2⟩
    · rw [Nat.zero_add] at h1
      exact .inr ⟨j, e, run_findKey hd h1, h2, h3⟩
  stays a w := run_keyThatStays (hk a)
theorem key_int {P : Program} {K : TypeId} (hd : P.underlying K = some (.int .i64)) : KeyOk P K (fun k : Int => Value.int .i64 k) :=
  key_plain hd (fun a => by simp [IsKey]) (fun a b h => by injection h)
theorem key_string {P : Program} {K : TypeId} (hd : P.underlying K = some .string) : KeyOk P K Value.string :=
  key_plain hd (fun a => by simp [IsKey]) (fun a b h => by injection h)

section
variable {α : Type}
/-- Block m of w is the map of these pairs. -/
def MapIs (kv : α → Value) (w : World) (m : Nat) (l : List (α × Value)) : Prop :=
  ∃ es clock, w.heap[m]? = some (.map es clock) ∧ Stamped es clock ∧ (l.map (·.1)).Nodup ∧ es.toList.map (fun (e : MapEntry) => (e.key, e.val)) = l.map fun p => (kv p.1, p.2)
theorem MapIs.lt {kv : α → Value} {w : World} {m : Nat} {l : List (α × Value)} (h : MapIs kv w m l) : m < w.heap.size := by
  obtain ⟨es, clock, hb, _⟩ := h
  exact (Array.getElem?_eq_some_iff.1 hb).1
theorem MapIs.kept {kv : α → Value} {w w' : World} {m : Nat} {l : List (α × Value)} {S : Nat → Prop} (h : MapIs kv w m l) (k : Keeps S w w') (hm : ¬ S m) : MapIs kv w' m l := by
  have hlt := h.lt
  obtain ⟨es, clock, hb, hr⟩ := h
  exact ⟨es, clock, (k.block m hlt hm).trans hb, hr⟩
theorem MapIs.ne_blk {kv : α → Value} {w : World} {m g : Nat} {l : List (α × Value)} {t : TypeId} {cs : List Value} (h : MapIs kv w m l) (hg : Blk w g t cs) : m ≠ g := by
  rintro rfl
  obtain ⟨es, clock, hb, _⟩ := h
  unfold Blk at hg
  rw [hb] at hg
  cases hg
theorem MapIs.ne_cells {kv : α → Value} {w : World} {m g : Nat} {l : List (α × Value)} {t : TypeId} {cur : Array Value} {fr : Nat × Nat} (h : MapIs kv w m l) (hg : w.heap[g]? = some (.cells cur t fr)) : g ≠ m := by
  rintro rfl
  obtain ⟨es, clock, hb, _⟩ := h
  rw [hb] at hg
  cases hg
theorem MapIs.made (kv : α → Value) (w : World) : MapIs kv (w.alloc (.map #[] 0)) w.heap.size [] :=
  ⟨#[], 0, (MapKept.heap_alloc w _).1, stamped_empty 0, by simp, by simp⟩
end
section
variable {α : Type} [DecidableEq α]
def look (l : List (α × Value)) (k : α) : Option Value := (l.find? fun p => decide (p.1 = k)).map (·.2)
def upd (l : List (α × Value)) (k : α) (v : Value) : List (α × Value) := if k ∈ l.map (·.1) then l.map (fun p => if p.1 = k then (k, v) else p) else l ++ [(k, v)]
theorem look_none {l : List (α × Value)} {k : α} : look l k = none ↔ k ∉ l.map (·.1) := by
  unfold look
  rw [Option.map_eq_none_iff, List.find?_eq_none]
  constructor
  · intro h hm
    obtain ⟨p, hp, he⟩ := List.mem_map.1 hm
    exact h p hp (by simpa using he)
  · intro h p hp
    simp
    intro he
    exact h (List.mem_map.2 ⟨p, hp, he⟩)
theorem look_append (l m : List (α × Value)) (k : α) : look (l ++ m) k = (look l k).or (look m k) := by
  unfold look
  rw [List.find?_append]
  cases List.find? (fun p => decide (p.1 = k)) l <;> rfl
theorem look_upd (l : List (α × Value)) (k : α) (v : Value) (k' : α) : look (upd l k v) k' = if k' = k then some v else look l k' := by
  unfold upd
  by_cases hm : k ∈ l.map (·.1)
  · rw [if_pos hm]
    induction l with
    | nil => simp at hm
    | cons p l ih =>
      by_cases hp : p.1 = k
      · by_cases hk : k' = k
        · subst hk; simp [look, hp]
        · rw [if_neg hk]
          simp only [List.map_cons, hp, if_true]
          by_cases hm2 : k ∈ l.map (·.1)
          · have := ih hm2
            rw [if_neg hk] at this
            have e1 : ∀ (q : α × Value) (r : List (α × Value)), q.1 ≠ k' → look (q :: r) k' = look r k' := by
              intro q r hq; simp [look, List.find?_cons, hq]
            rw [e1 _ _ (fun h => hk h.symm), e1 _ _ (by rw [hp]; exact fun h => hk h.symm)]
            exact this
          · have e2 : l.map (fun p => if p.1 = k then (k, v) else p) = l := by
              conv => rhs; rw [← List.map_id l]
              apply List.map_congr_left
              intro q hq
              rw [if_neg (fun h => hm2 (List.mem_map.2 ⟨q, hq, h⟩))]; rfl
            rw [e2]
            have hkk : k ≠ k' := fun h => hk h.symm
            simp [look, List.find?_cons, hp, hkk]
      · have hm2 : k ∈ l.map (·.1) := by
          rcases List.mem_cons.1 hm with h | h
          · exact absurd h.symm hp
          · exact h
        have := ih hm2
        simp only [List.map_cons, hp, if_false]
        by_cases hq : p.1 = k'
        · have hk : k' ≠ k := fun h => hp (hq.trans h)
          simp [look, List.find?_cons, hq, hk]
        · have e1 : ∀ r : List (α × Value), look (p :: r) k' = look r k' := by intro r; simp [look, List.find?_cons, hq]
          rw [e1, e1]; exact this
  · rw [if_neg hm, look_append]
    by_cases hk : k' = k
    · subst hk
      rw [look_none.2 hm, if_pos rfl]
      simp [look]
    · rw [if_neg hk]
      have : look [(k, v)] k' = none := by
        rw [look_none]; simp; exact hk
      rw [this]; simp
theorem upd_length (l : List (α × Value)) (k : α) (v : Value) : (upd l k v).length = if (look l k).isSome then l.length else l.length + 1 := by
  unfold upd
  by_cases hm : k ∈ l.map (·.1)
  · rw [if_pos hm]
    have : (look l k).isSome = true := by
      cases h : look l k with
      | none => exact absurd hm (look_none.1 h)
      | some _ => rfl
    rw [if_pos this, List.length_map]
  · rw [if_neg hm, look_none.2 hm]; simp
theorem upd_nodup {l : List (α × Value)} (h : (l.map (·.1)).Nodup) (k : α) (v : Value) : ((upd l k v).map (·.1)).Nodup := by
  unfold upd
  by_cases hm : k ∈ l.map (·.1)
  · rw [if_pos hm, List.map_map]
    have : ((fun x : α × Value => x.1) ∘ fun p => if p.1 = k then (k, v) else p) = fun p => p.1 := by
      funext p
      by_cases hp : p.1 = k <;> simp [hp]
    rw [this]; exact h
  · rw [if_neg hm, List.map_append]
    refine List.nodup_append.2 ⟨h, by simp, ?_⟩
    intro a ha b hb hab
    simp at hb
    subst hab hb
    exact hm ha
variable {P : Program} {kv : α → Value} {w : World} {m : Nat} {l : List (α × Value)} {T K E : TypeId}
theorem MapIs.found (h : MapIs kv w m l) (ko : KeyOk P K kv) (k : α) : ∃ es clock, w.heap[m]? = some (.map es clock) ∧ Stamped es clock ∧ es.toList.map (fun (e : MapEntry) => (e.key, e.val)) = l.map (fun p => (kv p.1, p.2)) ∧
    (((Instr.findKey K (kv k) es.toList).run P w = .ok none w ∧ look l k = none ∧ ∀ x ∈ es.toList, x.key ≠ kv k) ∨
     ∃ j e, (Instr.findKey K (kv k) es.toList).run P w = .ok (some (j, e.val)) w ∧ es.toList[j]? = some e ∧ e.key = kv k ∧ l[j]? = some (k, e.val) ∧ look l k = some e.val) := by
  obtain ⟨es, clock, hb, hs, hn, he⟩ := h
  refine ⟨es, clock, hb, hs, he, ?_⟩
  have hlen : es.toList.length = l.length := by have := congrArg List.length he; simpa using this
  have hat : ∀ (j : Nat) (e : MapEntry), es.toList[j]? = some e → ∃ p : α × Value, l[j]? = some p ∧ e.key = kv p.1 ∧ e.val = p.2 := by
    intro j e hj
    have h1 : (es.toList.map (fun (e : MapEntry) => (e.key, e.val)))[j]? = some (e.key, e.val) := by rw [List.getElem?_map, hj]; rfl
    rw [he, List.getElem?_map] at h1
    cases hp : l[j]? with
    | none => rw [hp] at h1; cases h1
    | some p =>
      rw [hp] at h1
      simp at h1
      exact ⟨p, rfl, h1.1.symm, h1.2.symm⟩
  have hkeys : ∀ x ∈ es.toList, ∃ b, x.key = kv b := by
    intro x hx
    obtain ⟨j, hj⟩ := List.getElem?_of_mem hx
    obtain ⟨p, _, hk, _⟩ := hat j x hj
    exact ⟨p.1, hk⟩
  rcases ko.find es.toList k w hkeys with ⟨h1, h2⟩ | ⟨j, e, h1, h2, h3⟩
  · refine .inl ⟨h1, ?_, h2⟩
    rw [look_none]
    intro hm
    obtain ⟨p, hp, hpk⟩ := List.mem_map.1 hm
    obtain ⟨j, hj⟩ := List.getElem?_of_mem hp
    have hjl : j < es.toList.length := by rw [hlen]; exact (List.getElem?_eq_some_iff.1 hj).1
    obtain ⟨p', hp', hk', _⟩ := hat j _ (List.getElem?_eq_getElem hjl)
    rw [hj] at hp'
    cases hp'
    exact h2 _ (List.getElem_mem hjl) (by rw [hk', hpk])
  · obtain ⟨p, hp, hk, hv⟩ := hat j e h2
    have hpk : p.1 = k := ko.inj _ _ (by rw [← hk, h3])
    refine .inr ⟨j, e, h1, h2, h3, by rw [hp, ← hpk, hv], ?_⟩
    -- the first pair with that key is this one: keys are told once
    have hmem : p ∈ l := List.mem_of_getElem? hp
    have key : ∀ (l : List (α × Value)), (l.map (·.1)).Nodup → p ∈ l → look l k = some p.2 := by
      intro l hn hp
      induction l with
      | nil => cases hp
      | cons q l ih =>
        rcases List.mem_cons.1 hp with h | h
        · subst h; simp [look, List.find?_cons, hpk]
        · have hq : q.1 ≠ k := by
            intro hq
            simp only [List.map_cons, List.nodup_cons] at hn
            exact hn.1 (List.mem_map.2 ⟨p, h, by rw [hpk, hq]⟩)
          have := ih (by simp only [List.map_cons, List.nodup_cons] at hn; exact hn.2) h
          simp [look, List.find?_cons, hq] at this ⊢
          exact this
    rw [key l hn hmem, hv]
/-- 'm[k]', 'v, ok := m[k]'. -/
theorem MapIs.lookup (h : MapIs kv w m l) (ko : KeyOk P K kv) (ht : P.underlying T = some (.map K E)) {z : Value} (hz : (zeroValue E).run P w = .ok z w) (k : α) (ok : Bool) :
    (Instr.lookup T (.map (some m)) (kv k) ok).run P w = .ok (if ok then .tuple #[(look l k).getD z, .bool (look l k).isSome] else (look l k).getD z) w := by
  obtain ⟨es, clock, hb, _, _, hf⟩ := h.found ko k
  rcases hf with ⟨h1, h2, _⟩ | ⟨j, e, h1, _, _, _, h2⟩
  · cases ok <;> simp [Instr.lookup, run_underlying ht, Go.MapKept.run_getObj_map hb, ko.check, h1, hz, h2, Result.andThen]
  · cases ok <;> simp [Instr.lookup, run_underlying ht, Go.MapKept.run_getObj_map hb, ko.check, h1, h2, Result.andThen]
/-- 'm[k] = v'. -/
theorem MapIs.update (h : MapIs kv w m l) (ko : KeyOk P K kv) (ht : P.underlying T = some (.map K E)) (k : α) (v : Value) :
    ∃ w', (Instr.mapUpdate T (.map (some m)) (kv k) v).run P w = .ok () w' ∧ MapIs kv w' m (upd l k v) ∧ Keeps (· = m) w w' := by
  have hn : (l.map (·.1)).Nodup := by obtain ⟨_, _, _, _, hn, _⟩ := h; exact hn
  obtain ⟨es, clock, hb, hs, he, hf⟩ := h.found ko k
  have hlt : m < w.heap.size := (Array.getElem?_eq_some_iff.1 hb).1
  have hkeep : ∀ o, Keeps (· = m) w { w with heap := w.heap.setIfInBounds m o } := fun o =>
    ⟨rfl, rfl, rfl, by simp, fun i _ hi => (heap_set hb).2 i hi⟩
  rcases hf with ⟨h1, h2, h3⟩ | ⟨j, e, h1, h2, h3, h4, h5⟩
  · refine ⟨_, by simp [Instr.mapUpdate, run_underlying ht, Go.MapKept.run_getObj_map hb, ko.check, h1, Go.MapKept.run_setObj_map _ hb, Result.andThen]; rfl, ⟨_, _, (heap_set hb).1, stamped_push hs h3, upd_nodup hn k v, ?_⟩, hkeep _⟩
    unfold upd
    rw [if_neg (look_none.1 h2)]
    simp [he]
  · have hmem : k ∈ l.map (·.1) := by
      apply Classical.byContradiction
      intro hc
      rw [look_none.2 hc] at h5
      cases h5
    have hj : es[j]? = some e := by simpa using h2
    have hgd : ((es[j]?).map (·.key)).getD (kv k) = kv k := by rw [hj]; exact h3
    have hmod : es.modify j (fun e => { e with key := kv k, val := v }) = es.modify j (fun e => { e with val := v, key := kv k }) := rfl
    refine ⟨_, by simp [Instr.mapUpdate, run_underlying ht, Go.MapKept.run_getObj_map hb, ko.check, h1, hj, h3, ko.stays, Go.MapKept.run_setObj_map _ hb, Result.andThen]; rfl, ⟨_, _, (heap_set hb).1, ?_, upd_nodup hn k v, ?_⟩, hkeep _⟩
    · exact stamped_modify hs j _ (fun _ _ => rfl) (fun x _ hx => by rw [hj] at hx; cases hx; exact h3.symm)
    · unfold upd
      rw [if_pos hmem]
      apply List.ext_getElem?
      intro i
      have hei : ∀ i : Nat, (es.toList.map fun (e : MapEntry) => (e.key, e.val))[i]? = (l.map fun p => (kv p.1, p.2))[i]? := fun i => by rw [he]
      have hi := hei i
      simp only [List.getElem?_map, Array.getElem?_toList] at hi
      simp only [List.map_map, List.getElem?_map, Array.getElem?_toList, Array.getElem?_modify]
      by_cases hij : j = i
      · subst hij
        rw [if_pos rfl, hj, h4]
        simp
      · rw [if_neg hij, hi]
        cases hp : l[i]? with
        | none => rfl
        | some p =>
          have hpk : p.1 ≠ k := by
            intro hpk
            apply hij
            have hlj : j < (l.map (·.1)).length := by rw [List.length_map]; exact (List.getElem?_eq_some_iff.1 h4).1
            refine (List.getElem?_inj hlj hn).1 ?_
            rw [List.getElem?_map, List.getElem?_map, h4, hp]
            simp [hpk]
          simp [hpk]
omit [DecidableEq α] in
theorem MapIs.run_len (h : MapIs kv w m l) (ht : P.underlying T = some (.map K E)) (ty : TypeId) : (Builtin.len_ #[T] ty #[.map (some m)]).run P w = .ok (.int .i64 (l.length : Int)) w := by
  obtain ⟨es, clock, hb, _, _, he⟩ := h
  have hlen : es.size = l.length := by have := congrArg List.length he; simpa using this
  simp [Builtin.len_, run_underlying ht, Go.MapKept.run_getObj_map hb, Result.andThen, goInt, hlen]
omit [DecidableEq α] in
theorem wpList_len_is {ops : Array Oper} {rest : List Oper} {o : Oper} {a : Act} {Q : Exit → Act → World → Prop} (h : MapIs kv w m l) (ht : P.underlying T = some (.map K E)) (hg : o.guard = none) (mo : Operand)
    (hop : o.op = Op.call { callee := Callee.builtin Builtin.len, args := #[mo], argTypes := #[T] }) (hm : a.eval mo = .map (some m))
    (hK : wpList P ops Q rest (a.put o.dst (.int .i64 (l.length : Int))) w) : wpList P ops Q (o :: rest) a w := by
  refine wpList_plain hg fun K' hK' => ?_
  unfold Oper.wp
  simp [execOp, hop, resolve, invoke, builtin, hm, h.run_len ht, Result.andThen]
  exact hK' _ _ hK
theorem wpList_update_is {ops : Array Oper} {rest : List Oper} {o : Oper} {a : Act} {Q : Exit → Act → World → Prop} (h : MapIs kv w m l) (ko : KeyOk P K kv) (ht : P.underlying T = some (.map K E)) (hg : o.guard = none) (mo ko' vo : Operand)
    (hop : o.op = Op.mapUpdate T mo ko' vo) (k : α) (v : Value) (hm : a.eval mo = .map (some m)) (hk : a.eval ko' = kv k) (hv : a.eval vo = v)
    (hK : ∀ w', MapIs kv w' m (upd l k v) → Keeps (· = m) w w' → wpList P ops Q rest (a.put o.dst undef) w') : wpList P ops Q (o :: rest) a w := by
  refine wpList_plain hg fun K' hK' => ?_
  obtain ⟨w', hrun, h1, h2⟩ := h.update ko ht k v
  unfold Oper.wp
  simp [execOp, hop, hm, hk, hv, hrun, Result.andThen]
  exact hK' _ _ (hK w' h1 h2)
end
end Go.Proofs.YtbgiegecfapmlaaGreatDoor
