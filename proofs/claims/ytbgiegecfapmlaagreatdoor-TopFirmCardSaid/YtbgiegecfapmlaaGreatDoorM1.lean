/- Maps that the call makes, as lists of pairs; conditions: none. Rows of a ledger: what was earned, what was lost, by whom, till when, who earned the most; conditions: none. What each function of package ledger does to one Ledger; conditions: at most 100 rows. Earn and Lose at any arguments; Earned, Lost, Till, Rows; what every law of chapter 14 asks first; conditions: at most 100 rows. What each function of package fate does to one Book; conditions: at most 200 jobs. -/
import Derived.Test.YtbgiegecfapmlaaGreatDoorBase
import Derived.Maps.OwnOps
import Derived.Maps.OwnSet
import Derived.MapKept
import Derived.Laws.Strings
import GoSem.Op.String
import Derived.Test.YtbgiegecfapmlaaGreatDoorFlat
import Derived.IntWalk
namespace Go.Proofs.YtbgiegecfapmlaaGreatDoor
open Go.RowKit Go.MapKept
set_option linter.unusedVariables false
set_option linter.unusedSimpArgs false
/-- What the machine does with keys of type K, written 'kv a'. -/
structure KeyOk (P : Program) (K : TypeId) {α : Type} (kv : α → Value) : Prop where
  inj : ∀ a b, kv a = kv b → a = b
  check : ∀ (e : Bool) (a : α) (w : World), (Instr.checkKey e 10000 K (kv a)).run P w = .ok () w
  find : ∀ (l : List MapEntry) (a : α) (w : World), (∀ x ∈ l, ∃ b, x.key = kv b) →
    ((Instr.findKey K (kv a) l).run P w = .ok none w ∧ ∀ x ∈ l, x.key ≠ kv a) ∨ ∃ j e, (Instr.findKey K (kv a) l).run P w = .ok (some (j, e.val)) w ∧ l[j]? = some e ∧ e.key = kv a
  stays : ∀ (a : α) (w : World), (Instr.keyThatStays (kv a) (kv a)).run P w = .ok (kv a) w
theorem key_plain {P : Program} {K : TypeId} {d : TypeDesc} {α : Type} {kv : α → Value} (hd : P.underlying K = some d) (hk : ∀ a, IsKey d (kv a)) (inj : ∀ a b, kv a = kv b → a = b) : KeyOk P K kv where
  inj := inj
  check e a w := run_checkKey hd (hk a) e 9999
  find l a w h := by
    rcases findNow_spec (hk a) l 0 (fun x hx => by obtain ⟨b, hb⟩ := h x hx; rw [hb]; exact hk b) with ⟨h1, h2⟩ | ⟨j, e, h1, h2, h3⟩
    · exact .inl ⟨run_findKey hd h1, h2⟩
    · rw [Nat.zero_add] at h1
      exact .inr ⟨j, e, run_findKey hd h1, h2, h3⟩
  stays a w := run_keyThatStays (hk a)
theorem key_int {P : Program} {K : TypeId} (hd : P.underlying K = some (.int .i64)) : KeyOk P K (fun k : Int => Value.int .i64 k) :=
  key_plain hd (fun a => by simp [IsKey]) (fun a b h => by injection h)
theorem key_string {P : Program} {K : TypeId} (hd : P.underlying K = some .string) : KeyOk P K Value.string :=
  key_plain hd (fun a => by simp [IsKey]) (fun a b h => by injection h)

section
variable {α : Type}
/-- Block m of w is the map of these pairs. -/
def MapIs (kv : α → Value) (w : World) (m : Nat) (l : List (α × Value)) : Prop :=
  ∃ es clock, w.heap[m]? = some (.map es clock) ∧ Stamped es clock ∧ (l.map (·.1)).Nodup ∧ es.toList.map (fun (e : MapEntry) => (e.key, e.val)) = l.map fun p => (kv p.1, p.2)
theorem MapIs.lt {kv : α → Value} {w : World} {m : Nat} {l : List (α × Value)} (h : MapIs kv w m l) : m < w.heap.size := by
  obtain ⟨es, clock, hb, _⟩ := h
  exact (Array.getElem?_eq_some_iff.1 hb).1
theorem MapIs.kept {kv : α → Value} {w w' : World} {m : Nat} {l : List (α × Value)} {S : Nat → Prop} (h : MapIs kv w m l) (k : Keeps S w w') (hm : ¬ S m) : MapIs kv w' m l := by
  have hlt := h.lt
  obtain ⟨es, clock, hb, hr⟩ := h
  exact ⟨es, clock, (k.block m hlt hm).trans hb, hr⟩
theorem MapIs.ne_blk {kv : α → Value} {w : World} {m g : Nat} {l : List (α × Value)} {t : TypeId} {cs : List Value} (h : MapIs kv w m l) (hg : Blk w g t cs) : m ≠ g := by
  rintro rfl
  obtain ⟨es, clock, hb, _⟩ := h
  unfold Blk at hg
  rw [hb] at hg
  cases hg
theorem MapIs.ne_cells {kv : α → Value} {w : World} {m g : Nat} {l : List (α × Value)} {t : TypeId} {cur : Array Value} {fr : Nat × Nat} (h : MapIs kv w m l) (hg : w.heap[g]? = some (.cells cur t fr)) : g ≠ m := by
  rintro rfl
  obtain ⟨es, clock, hb, _⟩ := h
  rw [hb] at hg
  cases hg
theorem MapIs.made (kv : α → Value) (w : World) : MapIs kv (w.alloc (.map #[] 0)) w.heap.size [] :=
  ⟨#[], 0, (MapKept.heap_alloc w _).1, stamped_empty 0, by simp, by simp⟩
end
section
variable {α : Type} [DecidableEq α]
def look (l : List (α × Value)) (k : α) : Option Value := (l.find? fun p => decide (p.1 = k)).map (·.2)
def upd (l : List (α × Value)) (k : α) (v : Value) : List (α × Value) := if k ∈ l.map (·.1) then l.map (fun p => if p.1 = k then (k, v) else p) else l ++ [(k, v)]
theorem look_none {l : List (α × Value)} {k : α} : look l k = none ↔ k ∉ l.map (·.1) := by
  unfold look
  rw [Option.map_eq_none_iff, List.find?_eq_none]
  constructor
  · intro h hm
    obtain ⟨p, hp, he⟩ := List.mem_map.1 hm
    exact h p hp (by simpa using he)
  · intro h p hp
    simp
    intro he
    exact h (List.mem_map.2 ⟨p, hp, he⟩)
theorem look_append (l m : List (α × Value)) (k : α) : look (l ++ m) k = (look l k).or (look m k) := by
  unfold look
  rw [List.find?_append]
  cases List.find? (fun p => decide (p.1 = k)) l <;> rfl
theorem look_upd (l : List (α × Value)) (k : α) (v : Value) (k' : α) : look (upd l k v) k' = if k' = k then some v else look l k' := by
  unfold upd
  by_cases hm : k ∈ l.map (·.1)
  · rw [if_pos hm]
    induction l with
    | nil => simp at hm
    | cons p l ih =>
      by_cases hp : p.1 = k
      · by_cases hk : k' = k
        · subst hk; simp [look, hp]
        · rw [if_neg hk]
          simp only [List.map_cons, hp, if_true]
          by_cases hm2 : k ∈ l.map (·.1)
          · have := ih hm2
            rw [if_neg hk] at this
            have e1 : ∀ (q : α × Value) (r : List (α × Value)), q.1 ≠ k' → look (q :: r) k' = look r k' := by
              intro q r hq; simp [look, List.find?_cons, hq]
            rw [e1 _ _ (fun h => hk h.symm), e1 _ _ (by rw [hp]; exact fun h => hk h.symm)]
            exact this
          · have e2 : l.map (fun p => if p.1 = k then (k, v) else p) = l := by
              conv => rhs; rw [← List.map_id l]
              apply List.map_congr_left
              intro q hq
              rw [if_neg (fun h => hm2 (List.mem_map.2 ⟨q, hq, h⟩))]; rfl
            rw [e2]
            have hkk : k ≠ k' := fun h => hk h.symm
            simp [look, List.find?_cons, hp, hkk]
      · have hm2 : k ∈ l.map (·.1) := by
          rcases List.mem_cons.1 hm with h | h
          · exact absurd h.symm hp
          · exact h
        have := ih hm2
        simp only [List.map_cons, hp, if_false]
        by_cases hq : p.1 = k'
        · have hk : k' ≠ k := fun h => hp (hq.trans h)
          simp [look, List.find?_cons, hq, hk]
        · have e1 : ∀ r : List (α × Value), look (p :: r) k' = look r k' := by intro r; simp [look, List.find?_cons, hq]
          rw [e1, e1]; exact this
  · rw [if_neg hm, look_append]
    by_cases hk : k' = k
    · subst hk
      rw [look_none.2 hm, if_pos rfl]
      simp [look]
    · rw [if_neg hk]
      have : look [(k, v)] k' = none := by
        rw [look_none]; simp; exact hk
      rw [this]; simp
theorem upd_length (l : List (α × Value)) (k : α) (v : Value) : (upd l k v).length = if (look l k).isSome then l.length else l.length + 1 := by
  unfold upd
  by_cases hm : k ∈ l.map (·.1)
  · rw [if_pos hm]
    have : (look l k).isSome = true := by
      cases h : look l k with
      | none => exact absurd hm (look_none.1 h)
      | some _ => rfl
    rw [if_pos this, List.length_map]
  · rw [if_neg hm, look_none.2 hm]; simp
theorem upd_nodup {l : List (α × Value)} (h : (l.map (·.1)).Nodup) (k : α) (v : Value) : ((upd l k v).map (·.1)).Nodup := by
  unfold upd
  by_cases hm : k ∈ l.map (·.1)
  · rw [if_pos hm, List.map_map]
    have : ((fun x : α × Value => x.1) ∘ fun p => if p.1 = k then (k, v) else p) = fun p => p.1 := by
      funext p
      by_cases hp : p.1 = k <;> simp [hp]
    rw [this]; exact h
  · rw [if_neg hm, List.map_append]
    refine List.nodup_append.2 ⟨h, by simp, ?_⟩
    intro a ha b hb hab
    simp at hb
    subst hab hb
    exact hm ha
variable {P : Program} {kv : α → Value} {w : World} {m : Nat} {l : List (α × Value)} {T K E : TypeId}
theorem MapIs.found (h : MapIs kv w m l) (ko : KeyOk P K kv) (k : α) : ∃ es clock, w.heap[m]? = some (.map es clock) ∧ Stamped es clock ∧ es.toList.map (fun (e : MapEntry) => (e.key, e.val)) = l.map (fun p => (kv p.1, p.2)) ∧
    (((Instr.findKey K (kv k) es.toList).run P w = .ok none w ∧ look l k = none ∧ ∀ x ∈ es.toList, x.key ≠ kv k) ∨
     ∃ j e, (Instr.findKey K (kv k) es.toList).run P w = .ok (some (j, e.val)) w ∧ es.toList[j]? = some e ∧ e.key = kv k ∧ l[j]? = some (k, e.val) ∧ look l k = some e.val) := by
  obtain ⟨es, clock, hb, hs, hn, he⟩ := h
  refine ⟨es, clock, hb, hs, he, ?_⟩
  have hlen : es.toList.length = l.length := by have := congrArg List.length he; simpa using this
  have hat : ∀ (j : Nat) (e : MapEntry), es.toList[j]? = some e → ∃ p : α × Value, l[j]? = some p ∧ e.key = kv p.1 ∧ e.val = p.2 := by
    intro j e hj
    have h1 : (es.toList.map (fun (e : MapEntry) => (e.key, e.val)))[j]? = some (e.key, e.val) := by rw [List.getElem?_map, hj]; rfl
    rw [he, List.getElem?_map] at h1
    cases hp : l[j]? with
    | none => rw [hp] at h1; cases h1
    | some p =>
      rw [hp] at h1
      simp at h1
      exact ⟨p, rfl, h1.1.symm, h1.2.symm⟩
  have hkeys : ∀ x ∈ es.toList, ∃ b, x.key = kv b := by
    intro x hx
    obtain ⟨j, hj⟩ := List.getElem?_of_mem hx
    obtain ⟨p, _, hk, _⟩ := hat j x hj
    exact ⟨p.1, hk⟩
  rcases ko.find es.toList k w hkeys with ⟨h1, h2⟩ | ⟨j, e, h1, h2, h3⟩
  · refine .inl ⟨h1, ?_, h2⟩
    rw [look_none]
    intro hm
    obtain ⟨p, hp, hpk⟩ := List.mem_map.1 hm
    obtain ⟨j, hj⟩ := List.getElem?_of_mem hp
    have hjl : j < es.toList.length := by rw [hlen]; exact (List.getElem?_eq_some_iff.1 hj).1
    obtain ⟨p', hp', hk', _⟩ := hat j _ (List.getElem?_eq_getElem hjl)
    rw [hj] at hp'
    cases hp'
    exact h2 _ (List.getElem_mem hjl) (by rw [hk', hpk])
  · obtain ⟨p, hp, hk, hv⟩ := hat j e h2
    have hpk : p.1 = k := ko.inj _ _ (by rw [← hk, h3])
    refine .inr ⟨j, e, h1, h2, h3, by rw [hp, ← hpk, hv], ?_⟩
    -- the first pair with that key is this one: keys are told once
    have hmem : p ∈ l := List.mem_of_getElem? hp
    have key : ∀ (l : List (α × Value)), (l.map (·.1)).Nodup → p ∈ l → look l k = some p.2 := by
      intro l hn hp
      induction l with
      | nil => cases hp
      | cons q l ih =>
        rcases List.mem_cons.1 hp with h | h
        · subst h; simp [look, List.find?_cons, hpk]
        · have hq : q.1 ≠ k := by
            intro hq
            simp only [List.map_cons, List.nodup_cons] at hn
            exact hn.1 (List.mem_map.2 ⟨p, h, by rw [hpk, hq]⟩)
          have := ih (by simp only [List.map_cons, List.nodup_cons] at hn; exact hn.2) h
          simp [look, List.find?_cons, hq] at this ⊢
          exact this
    rw [key l hn hmem, hv]
/-- 'm[k]', 'v, ok := m[k]'. -/
theorem MapIs.lookup (h : MapIs kv w m l) (ko : KeyOk P K kv) (ht : P.underlying T = some (.map K E)) {z : Value} (hz : (zeroValue E).run P w = .ok z w) (k : α) (ok : Bool) :
    (Instr.lookup T (.map (some m)) (kv k) ok).run P w = .ok (if ok then .tuple #[(look l k).getD z, .bool (look l k).isSome] else (look l k).getD z) w := by
  obtain ⟨es, clock, hb, _, _, hf⟩ := h.found ko k
  rcases hf with ⟨h1, h2, _⟩ | ⟨j, e, h1, _, _, _, h2⟩
  · cases ok <;> simp [Instr.lookup, run_underlying ht, Go.MapKept.run_getObj_map hb, ko.check, h1, hz, h2, Result.andThen]
  · cases ok <;> simp [Instr.lookup, run_underlying ht, Go.MapKept.run_getObj_map hb, ko.check, h1, h2, Result.andThen]
/-- 'm[k] = v'. -/
theorem MapIs.update (h : MapIs kv w m l) (ko : KeyOk P K kv) (ht : P.underlying T = some (.map K E)) (k : α) (v : Value) :
    ∃ w', (Instr.mapUpdate T (.map (some m)) (kv k) v).run P w = .ok () w' ∧ MapIs kv w' m (upd l k v) ∧ Keeps (· = m) w w' := by
  have hn : (l.map (·.1)).Nodup := by obtain ⟨_, _, _, _, hn, _⟩ := h; exact hn
  obtain ⟨es, clock, hb, hs, he, hf⟩ := h.found ko k
  have hlt : m < w.heap.size := (Array.getElem?_eq_some_iff.1 hb).1
  have hkeep : ∀ o, Keeps (· = m) w { w with heap := w.heap.setIfInBounds m o } := fun o =>
    ⟨rfl, rfl, rfl, by simp, fun i _ hi => (heap_set hb).2 i hi⟩
  rcases hf with ⟨h1, h2, h3⟩ | ⟨j, e, h1, h2, h3, h4, h5⟩
  · refine ⟨_, by simp [Instr.mapUpdate, run_underlying ht, Go.MapKept.run_getObj_map hb, ko.check, h1, Go.MapKept.run_setObj_map _ hb, Result.andThen]; rfl, ⟨_, _, (heap_set hb).1, stamped_push hs h3, upd_nodup hn k v, ?_⟩, hkeep _⟩
    unfold upd
    rw [if_neg (look_none.1 h2)]
    simp [he]
  · have hmem : k ∈ l.map (·.1) := by
      apply Classical.byContradiction
      intro hc
      rw [look_none.2 hc] at h5
      cases h5
    have hj : es[j]? = some e := by simpa using h2
    have hgd : ((es[j]?).map (·.key)).getD (kv k) = kv k := by rw [hj]; exact h3
    have hmod : es.modify j (fun e => { e with key := kv k, val := v }) = es.modify j (fun e => { e with val := v, key := kv k }) := rfl
    refine ⟨_, by simp [Instr.mapUpdate, run_underlying ht, Go.MapKept.run_getObj_map hb, ko.check, h1, hj, h3, ko.stays, Go.MapKept.run_setObj_map _ hb, Result.andThen]; rfl, ⟨_, _, (heap_set hb).1, ?_, upd_nodup hn k v, ?_⟩, hkeep _⟩
    · exact stamped_modify hs j _ (fun _ _ => rfl) (fun x _ hx => by rw [hj] at hx; cases hx; exact h3.symm)
    · unfold upd
      rw [if_pos hmem]
      apply List.ext_getElem?
      intro i
      have hei : ∀ i : Nat, (es.toList.map fun (e : MapEntry) => (e.key, e.val))[i]? = (l.map fun p => (kv p.1, p.2))[i]? := fun i => by rw [he]
      have hi := hei i
      simp only [List.getElem?_map, Array.getElem?_toList] at hi
      simp only [List.map_map, List.getElem?_map, Array.getElem?_toList, Array.getElem?_modify]
      by_cases hij : j = i
      · subst hij
        rw [if_pos rfl, hj, h4]
        simp
      · rw [if_neg hij, hi]
        cases hp : l[i]? with
        | none => rfl
        | some p =>
          have hpk : p.1 ≠ k := by
            intro hpk
            apply hij
            have hlj : j < (l.map (·.1)).length := by rw [List.length_map]; exact (List.getElem?_eq_some_iff.1 h4).1
            refine (List.getElem?_inj hlj hn).1 ?_
            rw [List.getElem?_map, List.getElem?_map, h4, hp]
            simp [hpk]
          simp [hpk]
omit [DecidableEq α] in
theorem MapIs.run_len (h : MapIs kv w m l) (ht : P.underlying T = some (.map K E)) (ty : TypeId) : (Builtin.len_ #[T] ty #[.map (some m)]).run P w = .ok (.int .i64 (l.length : Int)) w := by
  obtain ⟨es, clock, hb, _, _, he⟩ := h
  have hlen : es.size = l.length := by have := congrArg List.length he; simpa using this
  simp [Builtin.len_, run_underlying ht, Go.MapKept.run_getObj_map hb, Result.andThen, goInt, hlen]
omit [DecidableEq α] in
theorem wpList_len_is {ops : Array Oper} {rest : List Oper} {o : Oper} {a : Act} {Q : Exit → Act → World → Prop} (h : MapIs kv w m l) (ht : P.underlying T = some (.map K E)) (hg : o.guard = none) (mo : Operand)
    (hop : o.op = Op.call { callee := Callee.builtin Builtin.len, args := #[mo], argTypes := #[T] }) (hm : a.eval mo = .map (some m))
    (hK : wpList P ops Q rest (a.put o.dst (.int .i64 (l.length : Int))) w) : wpList P ops Q (o :: rest) a w := by
  refine wpList_plain hg fun K' hK' => ?_
  unfold Oper.wp
  simp [execOp, hop, resolve, invoke, builtin, hm, h.run_len ht, Result.andThen]
  exact hK' _ _ hK
theorem wpList_update_is {ops : Array Oper} {rest : List Oper} {o : Oper} {a : Act} {Q : Exit → Act → World → Prop} (h : MapIs kv w m l) (ko : KeyOk P K kv) (ht : P.underlying T = some (.map K E)) (hg : o.guard = none) (mo ko' vo : Operand)
    (hop : o.op = Op.mapUpdate T mo ko' vo) (k : α) (v : Value) (hm : a.eval mo = .map (some m)) (hk : a.eval ko' = kv k) (hv : a.eval vo = v)
    (hK : ∀ w', MapIs kv w' m (upd l k v) → Keeps (· = m) w w' → wpList P ops Q rest (a.put o.dst undef) w') : wpList P ops Q (o :: rest) a w := by
  refine wpList_plain hg fun K' hK' => ?_
  obtain ⟨w', hrun, h1, h2⟩ := h.update ko ht k v
  unfold Oper.wp
  simp [execOp, hop, hm, hk, hv, hrun, Result.andThen]
  exact hK' _ _ (hK w' h1 h2)
end
end Go.Proofs.YtbgiegecfapmlaaGreatDoor

namespace Go.Proofs.YtbgiegecfapmlaaGreatDoor
set_option linter.unusedVariables false
set_option linter.unusedSimpArgs false
/-- A row: its tick, its name, its value (a loss: less than nothing, or nothing). -/
structure LRow where
  t : Int
  n : ByteArray
  v : Int
namespace Led
theorem bytes_inj {a b : ByteArray} (h : a.toList = b.toList) : a = b := by
  rw [ByteArray.toList_eq, ByteArray.toList_eq] at h
  cases a; cases b
  simp only [ByteArray.mk.injEq]
  exact Array.toList_inj.1 h
theorem beq_dec (a b : ByteArray) : (a.toList == b.toList) = decide (a = b) := by
  by_cases h : a = b
  · subst h; simp
  · have : a.toList ≠ b.toList := fun e => h (bytes_inj e)
    simp [h, this]
theorem eq_nil_or_snoc {α : Type} (xs : List α) : xs = [] ∨ ∃ ys y, xs = ys ++ [y] := by
  by_cases h : xs = []
  · exact .inl h
  · exact .inr ⟨xs.dropLast, xs.getLast h, (List.dropLast_concat_getLast h).symm⟩
def pos (v : Int) : Int := if 0 < v then v else 0
def neg (v : Int) : Int := if 0 < v then 0 else -v
theorem pos_nn (v : Int) : 0 ≤ pos v := by unfold pos; split <;> omega
theorem neg_nn (v : Int) : 0 ≤ neg v := by unfold neg; split <;> omega
theorem pos_neg (v : Int) : pos v - neg v = v := by unfold pos neg; split <;> omega
theorem pos_of {v : Int} (h : 0 ≤ v) : pos v = v ∧ neg v = 0 := by unfold pos neg; constructor <;> split <;> omega
theorem neg_of {v : Int} (h : 0 ≤ v) : pos (-v) = 0 ∧ neg (-v) = v := by unfold pos neg; constructor <;> split <;> omega
def sumBy (f : LRow → Int) : List LRow → Int
  | [] => 0
  | x :: xs => f x + sumBy f xs
theorem sumBy_append (f : LRow → Int) (xs ys : List LRow) : sumBy f (xs ++ ys) = sumBy f xs + sumBy f ys := by
  induction xs with
  | nil => simp [sumBy]
  | cons x xs ih => simp only [List.cons_append, sumBy, ih]; omega
theorem sumBy_snoc (f : LRow → Int) (xs : List LRow) (x : LRow) : sumBy f (xs ++ [x]) = sumBy f xs + f x := by
  rw [sumBy_append]; simp [sumBy]
theorem sumBy_le {f g : LRow → Int} (xs : List LRow) (h : ∀ x, f x ≤ g x) : sumBy f xs ≤ sumBy g xs := by
  induction xs with
  | nil => exact Int.le_refl _
  | cons x xs ih => have := h x; simp only [sumBy]; omega
theorem sumBy_nn {f : LRow → Int} (xs : List LRow) (h : ∀ x, 0 ≤ f x) : 0 ≤ sumBy f xs := by
  induction xs with
  | nil => exact Int.le_refl _
  | cons x xs ih => have := h x; simp only [sumBy]; omega
theorem sumBy_take {f : LRow → Int} (xs : List LRow) (k : Nat) (h : ∀ x, 0 ≤ f x) : sumBy f (xs.take k) ≤ sumBy f xs := by
  have h1 := sumBy_append f (xs.take k) (xs.drop k)
  rw [List.take_append_drop] at h1
  have := sumBy_nn (f := f) (xs.drop k) h
  omega
theorem sumBy_zero {f : LRow → Int} (xs : List LRow) (h : ∀ x ∈ xs, f x = 0) : sumBy f xs = 0 := by
  induction xs with
  | nil => rfl
  | cons x xs ih =>
    simp only [sumBy]
    rw [h x (List.mem_cons_self ..), ih fun y hy => h y (List.mem_cons_of_mem _ hy)]; rfl
theorem sumBy_congr {f g : LRow → Int} (xs : List LRow) (h : ∀ x ∈ xs, f x = g x) : sumBy f xs = sumBy g xs := by
  induction xs with
  | nil => rfl
  | cons x xs ih =>
    simp only [sumBy]
    rw [h x (List.mem_cons_self ..), ih fun y hy => h y (List.mem_cons_of_mem _ hy)]
theorem sumBy_sub {f g h : LRow → Int} (xs : List LRow) (e : ∀ x, f x = g x - h x) : sumBy f xs = sumBy g xs - sumBy h xs := by
  induction xs with
  | nil => rfl
  | cons x xs ih => simp only [sumBy]; rw [ih, e]; omega
theorem sumBy_add {f g h : LRow → Int} (xs : List LRow) (e : ∀ x, f x = g x + h x) : sumBy f xs = sumBy g xs + sumBy h xs := by
  induction xs with
  | nil => rfl
  | cons x xs ih => simp only [sumBy]; rw [ih, e]; omega
theorem sumBy_next {f : LRow → Int} {xs : List LRow} {k : Nat} {x : LRow} (h : xs[k]? = some x) : sumBy f (xs.take (k + 1)) = sumBy f (xs.take k) + f x := by
  rw [take_next h, sumBy_snoc]
def earn (xs : List LRow) : Int := sumBy (fun r => pos r.v) xs
def loss (xs : List LRow) : Int := sumBy (fun r => neg r.v) xs
def earnOf (xs : List LRow) (n : ByteArray) : Int := sumBy (fun r => if r.n = n then pos r.v else 0) xs
def lossOf (xs : List LRow) (n : ByteArray) : Int := sumBy (fun r => if r.n = n then neg r.v else 0) xs
def till (xs : List LRow) (t : Int) : Int := sumBy (fun r => if r.t ≤ t then r.v else 0) xs
theorem earn_nn (xs : List LRow) : 0 ≤ earn xs := sumBy_nn _ fun _ => pos_nn _
theorem loss_nn (xs : List LRow) : 0 ≤ loss xs := sumBy_nn _ fun _ => neg_nn _
theorem earnOf_nn (xs : List LRow) (n : ByteArray) : 0 ≤ earnOf xs n := sumBy_nn _ fun _ => by split; exact pos_nn _; exact Int.le_refl _
theorem lossOf_nn (xs : List LRow) (n : ByteArray) : 0 ≤ lossOf xs n := sumBy_nn _ fun _ => by split; exact neg_nn _; exact Int.le_refl _
theorem earnOf_le (xs : List LRow) (n : ByteArray) : earnOf xs n ≤ earn xs := sumBy_le _ fun x => by split; exact Int.le_refl _; exact pos_nn _
theorem lossOf_le (xs : List LRow) (n : ByteArray) : lossOf xs n ≤ loss xs := sumBy_le _ fun x => by split; exact Int.le_refl _; exact neg_nn _
theorem till_bd (xs : List LRow) (t : Int) : -loss xs ≤ till xs t ∧ till xs t ≤ earn xs := by
  have h1 : till xs t = sumBy (fun r => if r.t ≤ t then pos r.v else 0) xs - sumBy (fun r => if r.t ≤ t then neg r.v else 0) xs := sumBy_sub xs fun x => by
    have := pos_neg x.v
    split <;> omega
  have h2 : sumBy (fun r => if r.t ≤ t then pos r.v else 0) xs ≤ earn xs := sumBy_le _ fun x => by split; exact Int.le_refl _; exact pos_nn _
  have h3 : sumBy (fun r => if r.t ≤ t then neg r.v else 0) xs ≤ loss xs := sumBy_le _ fun x => by split; exact Int.le_refl _; exact neg_nn _
  have h4 : 0 ≤ sumBy (fun r => if r.t ≤ t then pos r.v else 0) xs := sumBy_nn _ fun x => by split; exact pos_nn _; exact Int.le_refl _
  have h5 : 0 ≤ sumBy (fun r => if r.t ≤ t then neg r.v else 0) xs := sumBy_nn _ fun x => by split; exact neg_nn _; exact Int.le_refl _
  omega
theorem earn_take (xs : List LRow) (k : Nat) : earn (xs.take k) ≤ earn xs := sumBy_take _ _ fun _ => pos_nn _
theorem loss_take (xs : List LRow) (k : Nat) : loss (xs.take k) ≤ loss xs := sumBy_take _ _ fun _ => neg_nn _
theorem earn_snoc (xs : List LRow) (x : LRow) : earn (xs ++ [x]) = earn xs + pos x.v := sumBy_snoc _ _ _
theorem loss_snoc (xs : List LRow) (x : LRow) : loss (xs ++ [x]) = loss xs + neg x.v := sumBy_snoc _ _ _
/-- Is the last row behind a tick? -/
def late (xs : List LRow) (t : Int) : Bool := match xs.getLast? with
  | some r => decide (t < r.t)
  | none => false
/-- May a row be added? -/
def may (xs : List LRow) (t v all : Int) : Int :=
  if t < 0 ∨ v < 0 then 1 else if late xs t = true then 10 else if 4611686018427387904 - all < v then 8 else 0
def add (xs : List LRow) (t : Int) (n : ByteArray) (v : Int) (e : Bool) : Int × List LRow :=
  if may xs t v (if e then earn xs else loss xs) = 0 then (0, xs ++ [⟨t, n, if e then v else -v⟩]) else (may xs t v (if e then earn xs else loss xs), xs)
theorem may_ok {xs : List LRow} {t v all : Int} (h : may xs t v all = 0) : 0 ≤ t ∧ 0 ≤ v ∧ late xs t = false ∧ v ≤ 4611686018427387904 - all := by
  unfold may at h
  by_cases h1 : t < 0 ∨ v < 0
  · rw [if_pos h1] at h; cases h
  · rw [if_neg h1] at h
    by_cases h2 : late xs t = true
    · rw [if_pos h2] at h; cases h
    · rw [if_neg h2] at h
      by_cases h3 : 4611686018427387904 - all < v
      · rw [if_pos h3] at h; cases h
      · exact ⟨by omega, by omega, by simpa using h2, by omega⟩
/-- What is true of all rows that were added. -/
structure Good (xs : List LRow) : Prop where
  each : ∀ r ∈ xs, 0 ≤ r.t ∧ r.t ≤ 9223372036854775807 ∧ r.n.size ≤ maxLen
  e : earn xs ≤ 4611686018427387904
  l : loss xs ≤ 4611686018427387904
theorem Good.nil : Good [] := ⟨(fun r hr => nomatch hr), by decide, by decide⟩
theorem Good.add {xs : List LRow} (h : Good xs) (t : Int) (n : ByteArray) (v : Int) (e : Bool) (ht : t ≤ 9223372036854775807) (hn : n.size ≤ maxLen) : Good (Led.add xs t n v e).2 := by
  unfold Led.add
  by_cases hm : may xs t v (if e then earn xs else loss xs) = 0
  · rw [if_pos hm]
    obtain ⟨h1, h2, _, h4⟩ := may_ok hm
    refine ⟨?_, ?_, ?_⟩
    · intro r hr
      rcases List.mem_append.1 hr with hr | hr
      · exact h.each r hr
      · simp at hr; subst hr; exact ⟨h1, ht, hn⟩
    · show earn (xs ++ [_]) ≤ _
      rw [earn_snoc]
      have := h.e
      cases e
      · have := (neg_of h2).1; simp only [Bool.false_eq_true, if_false]; omega
      · have := (pos_of h2).1; simp only [if_true] at h4 ⊢; omega
    · show loss (xs ++ [_]) ≤ _
      rw [loss_snoc]
      have := h.l
      cases e
      · have := (neg_of h2).2; simp only [Bool.false_eq_true, if_false] at h4 ⊢; omega
      · have := (pos_of h2).2; simp only [if_true] at h4 ⊢; omega
  · rw [if_neg hm]; exact h
theorem add_len (xs : List LRow) (t : Int) (n : ByteArray) (v : Int) (e : Bool) : (add xs t n v e).2.length ≤ xs.length + 1 := by
  unfold add
  by_cases h : may xs t v (if e then earn xs else loss xs) = 0
  · rw [if_pos h]; simp
  · rw [if_neg h]; exact Nat.le_succ _
/-- The order of names. -/
def lt (a b : ByteArray) : Bool := Op.bytesLess a.toList b.toList
theorem bl_irr : ∀ x : List UInt8, Op.bytesLess x x = false
  | [] => rfl
  | a :: x => by simp [Op.bytesLess, bl_irr x]
theorem bl_tri : ∀ x y : List UInt8, Op.bytesLess x y = false → Op.bytesLess y x = false → x = y
  | [], [], _, _ => rfl
  | [], b :: y, h, _ => by simp [Op.bytesLess] at h
  | a :: x, [], _, h => by simp [Op.bytesLess] at h
  | a :: x, b :: y, h, k => by
    simp [Op.bytesLess] at h k
    have hab : a = b := UInt8.le_antisymm k.1 h.1
    subst hab
    rw [bl_tri x y (h.2 rfl) (k.2 rfl)]
theorem bl_trans : ∀ x y z : List UInt8, Op.bytesLess x y = true → Op.bytesLess y z = true → Op.bytesLess x z = true
  | _, [], _, h, _ => by simp [Op.bytesLess] at h
  | _, _ :: _, [], _, h => by simp [Op.bytesLess] at h
  | [], _ :: _, _ :: _, _, _ => rfl
  | a :: x, b :: y, c :: z, h, k => by
    simp [Op.bytesLess] at h k ⊢
    rcases h with h | ⟨h1, h2⟩
    · rcases k with k | ⟨k1, k2⟩
      · exact .inl (UInt8.lt_trans h k)
      · subst k1; exact .inl h
    · subst h1
      rcases k with k | ⟨k1, k2⟩
      · exact .inl k
      · exact .inr ⟨k1, bl_trans x y z h2 k2⟩
theorem lt_irr (a : ByteArray) : lt a a = false := bl_irr _
theorem lt_tri {a b : ByteArray} (h : lt a b = false) (k : lt b a = false) : a = b := bytes_inj (bl_tri _ _ h k)
theorem lt_trans {a b c : ByteArray} (h : lt a b = true) (k : lt b c = true) : lt a c = true := bl_trans _ _ _ h k
/-- Of the names in D, b has the most, m; of those that have as much the least; none has anything: the empty name, and nothing. -/
def Best (f : ByteArray → Int) (D : ByteArray → Prop) (b : ByteArray) (m : Int) : Prop :=
  (m = 0 ∧ b = ⟨#[]⟩ ∧ ∀ n, D n → f n ≤ 0) ∨ (0 < m ∧ f b = m ∧ ∀ n, D n → f n < m ∨ (f n = m ∧ lt n b = false))
theorem Best.start (f : ByteArray → Int) (D : ByteArray → Prop) (h : ∀ n, ¬ D n) : Best f D ⟨#[]⟩ 0 := .inl ⟨rfl, rfl, fun n hn => absurd hn (h n)⟩
theorem Best.nn {f : ByteArray → Int} {D : ByteArray → Prop} {b : ByteArray} {m : Int} (h : Best f D b m) : 0 ≤ m := by rcases h with h | h <;> omega
theorem Best.up {f : ByteArray → Int} {D D' : ByteArray → Prop} {b : ByteArray} {m : Int} (h : Best f D b m) {n : ByteArray} (hD : ∀ x, D' x → D x ∨ x = n) (hu : m < f n ∨ (f n = m ∧ 0 < m ∧ lt n b = true)) : Best f D' n (f n) := by
  have h0 := h.nn
  refine .inr ⟨by omega, rfl, fun x hx => ?_⟩
  rcases hD x hx with hx | rfl
  · rcases h with ⟨rfl, _, h⟩ | ⟨h1, h2, h3⟩
    · have := h x hx
      rcases hu with hu | hu
      · exact .inl (by omega)
      · omega
    · rcases h3 x hx with h4 | ⟨h4, h5⟩
      · exact .inl (by omega)
      · rcases hu with hu | ⟨hu, _, hl⟩
        · exact .inl (by omega)
        · refine .inr ⟨by omega, ?_⟩
          cases hxn : lt x n with
          | false => rfl
          | true => rw [lt_trans hxn hl] at h5; cases h5
  · exact .inr ⟨rfl, lt_irr _⟩
theorem Best.stay {f : ByteArray → Int} {D D' : ByteArray → Prop} {b : ByteArray} {m : Int} (h : Best f D b m) {n : ByteArray} (hD : ∀ x, D' x → D x ∨ x = n) (hu : ¬ (m < f n ∨ (f n = m ∧ 0 < m ∧ lt n b = true))) : Best f D' b m := by
  rcases h with ⟨h1, h2, h⟩ | ⟨h1, h2, h3⟩
  · refine .inl ⟨h1, h2, fun x hx => ?_⟩
    rcases hD x hx with hx | rfl
    · exact h x hx
    · omega
  · refine .inr ⟨h1, h2, fun x hx => ?_⟩
    rcases hD x hx with hx | rfl
    · exact h3 x hx
    · by_cases he : f x = m
      · refine .inr ⟨he, ?_⟩
        cases hl : lt x b with
        | false => rfl
        | true => exact absurd (.inr ⟨he, h1, hl⟩) hu
      · exact .inl (by omega)
theorem Best.same {f : ByteArray → Int} {D D' : ByteArray → Prop} {b b' : ByteArray} {m m' : Int} (h : Best f D b m) (h' : Best f D' b' m') (hD : ∀ n, 0 < f n → D n) (hD' : ∀ n, 0 < f n → D' n) : b = b' ∧ m = m' := by
  rcases h with ⟨h1, h2, h3⟩ | ⟨h1, h2, h3⟩ <;> rcases h' with ⟨k1, k2, k3⟩ | ⟨k1, k2, k3⟩
  · exact ⟨h2.trans k2.symm, h1.trans k1.symm⟩
  · have := h3 b' (hD b' (by omega)); omega
  · have := k3 b (hD' b (by omega)); omega
  · have a1 := h3 b' (hD b' (by omega))
    have a2 := k3 b (hD' b (by omega))
    have hm : m = m' := by omega
    subst hm
    have b1 : lt b' b = false := by
      rcases a1 with a1 | a1
      · omega
      · exact a1.2
    have b2 : lt b b' = false := by
      rcases a2 with a2 | a2
      · omega
      · exact a2.2
    exact ⟨lt_tri b2 b1, rfl⟩
theorem Best.grow {f : ByteArray → Int} {D D' : ByteArray → Prop} {b : ByteArray} {m : Int} (h : Best f D b m) (hD : ∀ n, D' n → 0 < f n → D n) : Best f D' b m := by
  rcases h with ⟨h1, h2, h3⟩ | ⟨h1, h2, h3⟩
  · refine .inl ⟨h1, h2, fun n hn => ?_⟩
    by_cases hp : 0 < f n
    · exact h3 n (hD n hn hp)
    · omega
  · refine .inr ⟨h1, h2, fun n hn => ?_⟩
    by_cases hp : 0 < f n
    · exact h3 n (hD n hn hp)
    · exact .inl (by omega)
/-- Who earned the most of all. -/
def Top (xs : List LRow) (b : ByteArray) (m : Int) : Prop := Best (earnOf xs) (fun _ => True) b m
theorem Top.same {xs : List LRow} {b b' : ByteArray} {m m' : Int} (h : Top xs b m) (h' : Top xs b' m') : b = b' ∧ m = m' := Best.same h h' (fun _ _ => trivial) (fun _ _ => trivial)
theorem name_of_earn {xs : List LRow} {n : ByteArray} (h : 0 < earnOf xs n) : ∃ r ∈ xs, r.n = n := by
  apply Classical.byContradiction
  intro hc
  have : earnOf xs n = 0 := sumBy_zero xs fun x hx => by rw [if_neg fun e => hc ⟨x, hx, e⟩]
  omega
end Led
end Go.Proofs.YtbgiegecfapmlaaGreatDoor

namespace Go.Proofs.YtbgiegecfapmlaaGreatDoor
open Go.RowKit
set_option linter.unusedVariables false
set_option linter.unusedSimpArgs false
namespace Led
def cf (r : LRow) : List Value := [.int .i64 r.t, .string r.n, .int .i64 r.v]
theorem cf_len (r : LRow) : (cf r).length = 3 := rfl
theorem infoR : (Tryz.prog.info? 227).map (fun i => (i.zero, i.size, i.bytes)) = some (some (.agg #[.int .i64 0, .string ⟨#[]⟩, .int .i64 0]), 3, 32) := by kernel_rfl
theorem zeroB (W : World) : (zeroValue 225).run Tryz.prog W = .ok (.agg #[.int .i64 0, .int .i64 0]) W := by kernel_rfl
theorem cells_one (xs : List LRow) : ∀ u ∈ xs.flatMap cf, u.oneCell' = true := by
  intro u hu
  obtain ⟨f, _, hf⟩ := List.mem_flatMap.1 hu
  simp [cf] at hf
  rcases hf with rfl | rfl | rfl <;> rfl
theorem flat_snoc (xs : List LRow) (x : LRow) : (xs ++ [x]).flatMap cf = xs.flatMap cf ++ cf x := by simp
/-- The Ledger at block p: its map m of the pairs l, its rows the slice A. -/
structure At (w : World) (p m : Nat) (A : Option Addr) (c : Nat) (l : List (ByteArray × Value)) (xs : List LRow) : Prop where
  B : Blk w p 223 [.slice A xs.length c, .int .i64 (earn xs), .int .i64 (loss xs), .map (some m)]
  G : w.ownsRow 0 227 3 (.slice A xs.length c) xs.length (xs.flatMap cf)
  M : MapIs Value.string w m l
  V : ∀ n, (look l n).getD (.agg #[.int .i64 0, .int .i64 0]) = .agg #[.int .i64 (earnOf xs n), .int .i64 (lossOf xs n)]
  X : Good xs
/-- The blocks that a Ledger holds. -/
def Foot (p m : Nat) (A : Option Addr) (b : Nat) : Prop := b = p ∨ b = m ∨ (Value.slice A 0 0).ownBlock = some b
theorem own_same (A : Option Addr) (n c n' c' : Nat) : (Value.slice A n c).ownBlock = (Value.slice A n' c').ownBlock := by cases A <;> rfl
section
variable {w w' : World} {p m c : Nat} {A : Option Addr} {l : List (ByteArray × Value)} {xs : List LRow} {S : Nat → Prop}
theorem At.kept (h : At w p m A c l xs) (k : Keeps S w w') (hS : ∀ b, Foot p m A b → ¬ S b) : At w' p m A c l xs :=
  ⟨h.B.kept k (hS p (.inl rfl)), own_kept h.G k (fun g _ _ hg => hS g (.inr (.inr ((own_same A _ _ _ _).trans hg)))), h.M.kept k (hS m (.inr (.inl rfl))), h.V, h.X⟩
theorem At.stay (h : At w p m A c l xs) (k : Keeps (fun _ => False) w w') : At w' p m A c l xs := h.kept k fun _ _ h => h
theorem At.pm (h : At w p m A c l xs) : p ≠ m := fun e => h.M.ne_blk h.B e.symm
theorem At.gp (h : At w p m A c l xs) (n c' : Nat) : (Value.slice A n c').ownBlock ≠ some p := by
  rw [own_same A n c' xs.length c]; exact own_type_ne h.G h.B (by decide)
theorem At.gm (h : At w p m A c l xs) (n c' : Nat) : (Value.slice A n c').ownBlock ≠ some m := by
  rw [own_same A n c' xs.length c]
  intro e
  rcases h.G.2 with ⟨h0, _⟩ | ⟨g, cap, cur, hv, _, hh, _⟩
  · rw [h0] at e; cases e
  · rw [hv] at e
    cases e
    exact h.M.ne_cells hh rfl
theorem At.lt (h : At w p m A c l xs) : ∀ b, Foot p m A b → b < w.heap.size := by
  rintro b (rfl | rfl | hb)
  · exact h.B.lt
  · exact h.M.lt
  · exact (h.G.lt b ((own_same A _ _ _ _).trans hb)).2
theorem At.has (h : At w p m A c l xs) : Has w 227 3 (.slice A xs.length c) xs.length (xs.flatMap cf) := Has.of_own h.G
theorem At.cell (h : At w p m A c l xs) {i : Nat} {r : LRow} (hr : xs[i]? = some r) :
    ∃ g off, A = some ⟨g, off, none⟩ ∧ w.cell? ⟨g, off + i * 3, none⟩ = some (.int .i64 r.t) ∧ w.cell? ⟨g, off + i * 3 + 1, none⟩ = some (.string r.n) ∧ w.cell? ⟨g, off + i * 3 + 2, none⟩ = some (.int .i64 r.v) := by
  have hi := (List.getElem?_eq_some_iff.1 hr).1
  obtain ⟨g, off, hA, hc⟩ := h.has.at_ (by omega)
  exact ⟨g, off, hA, hc _ _ (flat_at cf_len hr (j := 0) rfl), hc _ _ (flat_at cf_len hr (j := 1) rfl), hc _ _ (flat_at cf_len hr (j := 2) rfl)⟩
end
/-- A Ledger at block p, holding the blocks F. -/
def Is (w : World) (p : Nat) (F : Nat → Prop) (xs : List LRow) : Prop := ∃ m A c l, At w p m A c l xs ∧ F = Foot p m A
section
variable {w w' : World} {p : Nat} {F : Nat → Prop} {xs : List LRow} {S : Nat → Prop}
theorem Is.kept (h : Is w p F xs) (k : Keeps S w w') (hS : ∀ b, F b → ¬ S b) : Is w' p F xs := by
  obtain ⟨m, A, c, l, ha, rfl⟩ := h
  exact ⟨m, A, c, l, ha.kept k hS, rfl⟩
theorem Is.stay (h : Is w p F xs) (k : Keeps (fun _ => False) w w') : Is w' p F xs := h.kept k fun _ _ h => h
theorem Is.lt (h : Is w p F xs) : ∀ b, F b → b < w.heap.size := by
  obtain ⟨m, A, c, l, ha, rfl⟩ := h
  exact ha.lt
theorem Is.good (h : Is w p F xs) : Good xs := by
  obtain ⟨m, A, c, l, ha, rfl⟩ := h
  exact ha.X
end
set_option maxHeartbeats 400000 in
theorem new_any (w : World) :
    Calls Tryz.prog 76 #[] w fun e w' => ∃ p F, e = .returned (.pointer (some ⟨p, 0, none⟩)) ∧ (∀ b, F b → w.heap.size ≤ b) ∧ Is w' p F [] ∧ Keeps (fun _ => False) w w' := by
  have hmm := @run_makeMap Tryz.prog
  go_enter Tryz.func76, Tryz.ntmps76
  go_wp2_with fail
  go_ret
  refine ⟨w.heap.size + 1, Foot (w.heap.size + 1) w.heap.size none, rfl, ?_, ⟨w.heap.size, none, 0, [], ⟨?_, ?_, ?_, ?_, Good.nil⟩, rfl⟩, ((Keeps.refl _ _).alloc _).alloc _⟩
  · rintro b (rfl | rfl | hb)
    · omega
    · omega
    · cases hb
  · have := Blk.new (w.alloc (.map #[] 0)) 223 [.slice none 0 0, .int .i64 0, .int .i64 0, .map (some w.heap.size)]
    simp only [World.size_alloc] at this
    exact this
  · exact World.ownsRow_nil _ _ _ _
  · exact (MapIs.made Value.string w).kept ((Keeps.refl (fun _ => False) _).alloc _) (fun h => h)
  · intro n; rfl
theorem late_nil (t : Int) : late [] t = false := rfl
theorem late_snoc (xs : List LRow) (r : LRow) (t : Int) : late (xs ++ [r]) t = decide (t < r.t) := by simp [late]
set_option maxHeartbeats 1000000 in
theorem may_any (p m : Nat) (A : Option Addr) (c : Nat) (l : List (ByteArray × Value)) (xs : List LRow) (t v all : Int) (w : World) (hl : xs.length ≤ 100) (h : At w p m A c l xs) (ha : 0 ≤ all) (hb : all ≤ 4611686018427387904) :
    Calls Tryz.prog 118 #[.pointer (some ⟨p, 0, none⟩), .int .i64 t, .int .i64 v, .int .i64 all] w fun e w' => e = .returned (.int .i64 (may xs t v all)) ∧ Drawn w w' := by
  have D := Drawn.refl w
  have c0 := h.B.cellAt (i := 0) rfl
  by_cases h1 : t < 0 ∨ v < 0
  · have hr : may xs t v all = 1 := by unfold may; rw [if_pos h1]
    rw [hr]
    clear hr c0
    by_cases h2 : t < 0
    · clear h1
      go_enter Tryz.func118, Tryz.ntmps118
      go_wp2_with fail
      go_ret
      exact ⟨rfl, D⟩
    · have h3 : v < 0 := by omega
      clear h1
      go_enter Tryz.func118, Tryz.ntmps118
      go_wp2_with fail
      go_ret
      exact ⟨rfl, D⟩
  · have h2 : 0 ≤ t := by omega
    have h3 : 0 ≤ v := by omega
    have hr : may xs t v all = if late xs t = true then 10 else if 4611686018427387904 - all < v then 8 else 0 := by unfold may; rw [if_neg h1]
    rw [hr]
    clear hr h1
    rcases eq_nil_or_snoc xs with rfl | ⟨ys, r, rfl⟩
    · rw [late_nil]
      clear h
      by_cases h5 : 4611686018427387904 - all < v
      · go_enter Tryz.func118, Tryz.ntmps118
        go_wp2_with fail
        go_quiet (fail)
        go_wp2_with fail
        go_ret
        exact ⟨by simp [h5], D.drewN _⟩
      · go_enter Tryz.func118, Tryz.ntmps118
        go_wp2_with fail
        go_quiet (fail)
        go_wp2_with fail
        go_ret
        exact ⟨by simp [h5], D.drewN _⟩
    · obtain ⟨g, off, rfl, d0, _, _⟩ := h.cell (i := ys.length) (r := r) (by simp)
      obtain ⟨N, hN⟩ : ∃ N, N = (ys ++ [r]).length := ⟨_, rfl⟩
      rw [← hN] at c0 hl
      have hN1 : N = ys.length + 1 := by rw [hN]; simp
      have hw : IntKind.i64.wrap ((N : Int) - 1) = (ys.length : Int) := by rw [IntWalk.i64_in _ (by omega)]; omega
      have i0 : (0 : Int) ≤ (ys.length : Int) := by omega
      have i1 : (ys.length : Int) < (N : Int) := by omega
      have i2 : (0 : Int) < (N : Int) := by omega
      have i3 : 0 < N := by omega
      have hd : decide (0 < N) = true := by simpa using i3
      rw [late_snoc]
      clear hN h hN1
      generalize ys.length = k at *
      by_cases h4 : t < r.t
      · have hd4 : decide (t < r.t) = true := by simpa using h4
        rw [hd4]
        go_enter Tryz.func118, Tryz.ntmps118
        go_wp2_with fail
        go_quiet (fail)
        go_wp2_with fail
        go_ret
        exact ⟨rfl, D.drewN _⟩
      · have hd4 : decide (t < r.t) = false := by simpa using h4
        rw [hd4]
        by_cases h5 : 4611686018427387904 - all < v
        · go_enter Tryz.func118, Tryz.ntmps118
          go_wp2_with fail
          go_quiet (fail)
          clear hw
          go_wp2_with fail
          go_ret
          exact ⟨by simp [h5], D.drewN _⟩
        · go_enter Tryz.func118, Tryz.ntmps118
          go_wp2_with fail
          go_quiet (fail)
          clear hw
          go_wp2_with fail
          go_ret
          exact ⟨by simp [h5], D.drewN _⟩

theorem add_V {l : List (ByteArray × Value)} {xs : List LRow} (V : ∀ n, (look l n).getD (.agg #[.int .i64 0, .int .i64 0]) = .agg #[.int .i64 (earnOf xs n), .int .i64 (lossOf xs n)]) (r : LRow) :
    ∀ n, (look (upd l r.n (.agg #[.int .i64 (earnOf xs r.n + pos r.v), .int .i64 (lossOf xs r.n + neg r.v)])) n).getD (.agg #[.int .i64 0, .int .i64 0]) = .agg #[.int .i64 (earnOf (xs ++ [r]) n), .int .i64 (lossOf (xs ++ [r]) n)] := by
  intro n
  rw [look_upd]
  unfold earnOf lossOf
  rw [sumBy_snoc, sumBy_snoc]
  by_cases h : n = r.n
  · subst h; simp
  · have h' : ¬ r.n = n := fun e => h e.symm
    rw [if_neg h, if_neg h', if_neg h', Int.add_zero, Int.add_zero]
    exact V n

set_option maxRecDepth 100000 in
set_option maxHeartbeats 2000000 in
theorem earn_yes (p m : Nat) (A : Option Addr) (c : Nat) (l : List (ByteArray × Value)) (xs : List LRow) (t : Int) (n : ByteArray) (v : Int) (w : World) (hl : xs.length ≤ 99) (h : At w p m A c l xs) (hm : may xs t v (earn xs) = 0) (ht : t ≤ 9223372036854775807) (hn : n.size ≤ maxLen) :
    Calls Tryz.prog 78 #[.pointer (some ⟨p, 0, none⟩), .int .i64 t, .string n, .int .i64 v] w fun e w' => e = .returned (.int .i64 0) ∧ (∃ A' c' l', At w' p m A' c' l' (xs ++ [⟨t, n, v⟩]) ∧ ∀ b, Foot p m A' b → Foot p m A b ∨ w.heap.size ≤ b) ∧ Keeps (Foot p m A) w w' := by
  obtain ⟨i0, hi0, hz0, hz1, hz2⟩ := info_parts infoR
  have hc1 := h.B.cellAt (i := 1) rfl
  obtain ⟨ht0, hv0, hlate, hv1⟩ := may_ok hm
  have HM := Lib.hid hm
  have HL := Lib.hid hlate
  have e0 := earn_nn xs
  have e1 := h.X.e
  have l0 := loss_nn xs
  have l1 := h.X.l
  have eo0 := earnOf_nn xs n
  have eo1 := earnOf_le xs n
  have lo0 := lossOf_nn xs n
  have lo1 := lossOf_le xs n
  clear hm hlate
  go_enter Tryz.func78, Tryz.ntmps78
  go_wp2_with fail
  refine (may_any p m A c l xs t v (earn xs) _ (by omega) h e0 e1).mono ?_
  rintro e w1 ⟨rfl, D1⟩
  have K1 := D1.keeps (Foot p m A)
  have H1 := h.stay (D1.keeps _)
  rw [HM.out]
  clear D1 hc1
  have hc1 := H1.B.cellAt (i := 1) rfl
  have hf1 := H1.B.frozen
  have hpm := H1.pm
  have M2 : MapIs Value.string (w1.setCell ⟨p, 1, none⟩ (.int .i64 (earn xs + v))) m l := H1.M.kept (S := (· = p)) ((keep1 p w1).setCell _ (.inl rfl) _) (fun e => hpm e.symm)
  have B2 : Blk (w1.setCell ⟨p, 1, none⟩ (.int .i64 (earn xs + v))) p 223 [.slice A xs.length c, .int .i64 (earn xs + v), .int .i64 (loss xs), .map (some m)] := H1.B.set_ 1 _
  have c3 := B2.cellAt (i := 3) rfl
  have hlk := M2.lookup (T := 220) (key_string Tryz.underlying9) Tryz.underlying220 (zeroB _) n false
  have hV := H1.V n
  have hlk' : (Instr.lookup 220 (.map (some m)) (.string n) false).run Tryz.prog (w1.setCell ⟨p, 1, none⟩ (.int .i64 (earn xs + v))) = .ok (.agg #[.int .i64 (earnOf xs n), .int .i64 (lossOf xs n)]) (w1.setCell ⟨p, 1, none⟩ (.int .i64 (earn xs + v))) := by
    refine hlk.trans ?_
    rw [if_neg (by decide), hV]
  clear hlk hV
  go_wp2_with fail
  have K2 : Keeps (Foot p m A) w (w1.setCell ⟨p, 1, none⟩ (.int .i64 (earn xs + v))) := K1.setCell _ (.inl (.inl rfl)) _
  have G2 : (w1.setCell ⟨p, 1, none⟩ (.int .i64 (earn xs + v))).ownsRow 0 227 3 (.slice A xs.length c) xs.length (xs.flatMap cf) := own_kept H1.G (S := (· = p)) ((keep1 p w1).setCell _ (.inl rfl) _) (fun g _ _ hg e => H1.gp _ _ (hg.trans (congrArg some e)))
  have hsz : (w1.setCell ⟨p, 1, none⟩ (.int .i64 (earn xs + v))).heap.size = w1.heap.size := by simp [World.setCell]
  generalize w1.setCell ⟨p, 1, none⟩ (.int .i64 (earn xs + v)) = w2 at *
  have hpl := B2.lt
  have hml := M2.lt
  have Q3 : Blk (w2.alloc (.cells #[.int .i64 (earnOf xs n), .int .i64 (lossOf xs n)] 225)) w2.heap.size 225 [.int .i64 (earnOf xs n), .int .i64 (lossOf xs n)] := Blk.new w2 _ _
  have B3 := B2.alloc (.cells #[.int .i64 (earnOf xs n), .int .i64 (lossOf xs n)] 225)
  have M3 := M2.kept ((Keeps.refl (fun _ => False) w2).alloc (.cells #[.int .i64 (earnOf xs n), .int .i64 (lossOf xs n)] 225)) (fun h => h)
  have G3 := own_kept G2 ((Keeps.refl (fun _ => False) w2).alloc (.cells #[.int .i64 (earnOf xs n), .int .i64 (lossOf xs n)] 225)) (fun _ _ _ _ h => h)
  have K3 := K2.alloc (.cells #[.int .i64 (earnOf xs n), .int .i64 (lossOf xs n)] 225)
  clear M2 B2 c3 hlk' K2 G2 hc1 hf1
  rw [hsz] at Q3 hpl hml
  clear hsz
  generalize w1.heap.size = q at *
  generalize w2.alloc (.cells #[.int .i64 (earnOf xs n), .int .i64 (lossOf xs n)] 225) = w3 at *
  have c3 := B3.cellAt (i := 3) rfl
  have q0 := Q3.cellAt (i := 0) rfl
  have q1 := Q3.cellAt (i := 1) rfl
  have hw : IntKind.i64.wrap (earnOf xs n + v) = earnOf xs n + v := IntWalk.i64_in _ (by omega)
  go_still_tail 12, (by kernel_rfl)
  clear hw
  refine wpList_update_is (w := w3.drew) (m := m) (l := l) (by exact M3) (key_string Tryz.underlying9) Tryz.underlying220 rfl (.tmp 39) (.tmp 40) (.tmp 47) rfl n (.agg #[.int .i64 (earnOf xs n + v), .int .i64 (lossOf xs n)]) rfl rfl rfl ?_
  intro w4 M4 k4
  have hgm := fun n' c' => H1.gm n' c'
  have hgp := fun n' c' => H1.gp n' c'
  have K4 : Keeps (Foot p m A) w w4 := K3.drew.trans k4 (fun i _ hi => .inr (.inl hi))
  have B4 := B3.drew.kept k4 hpm
  have G4 := own_kept (w := w3.drew) G3 k4 (fun g _ _ hg e => hgm _ _ (hg.trans (congrArg some e)))
  clear M3 B3 G3 K3 k4 Q3 c3 q0 q1 H1 K1
  have d0 := B4.cellAt (i := 0) rfl
  go_wp2_with (at_builtin; refine wpList_append_has rfl (.tmp 52) (.tmp 57) 221 rfl i0 _ 32 Tryz.underlying221 hi0 hz0 hz1 hz2 rfl (by omega) rfl (own_kept G4 ((Keeps.refl (fun _ => False) w4).alloc _) (fun _ _ _ _ h => h)) (some ⟨w4.heap.size, 0, none⟩) 1 1 (cf ⟨t, n, v⟩) rfl (Has.box w4 227 3 1 (cf ⟨t, n, v⟩) rfl (by unfold maxLen; omega)) (by have := cells_one [⟨t, n, v⟩]; simpa using this) (by unfold maxLen; omega) (by omega) (by omega) ?_; intro v5 w5 own5 g5 at5; obtain ⟨A5, c5, hv5⟩ := own_shape own5; subst hv5; have hgp4 := hgp xs.length c; have hgm4 := hgm xs.length c; have K5 : Keeps (Foot p m A) w w5 := keeps_grown (K4.alloc _) g5 (fun g hg => .inl (.inr (.inr ((own_same A _ _ _ _).trans hg)))); have B5 := (B4.alloc _).grown g5 hgp4; have M5 := (M4.kept ((Keeps.refl (fun _ => False) w4).alloc _) (fun h => h)).kept (S := fun g => (Value.slice A xs.length c).ownBlock = some g) (keeps_grown (Keeps.refl _ _) g5 (fun g hg => .inl hg)) hgm4; have z4 := K4.size; clear g5 M4 B4 G4 d0 K4; have hf5 := B5.frozen; have d5 := B5.cellAt (i := 0) rfl)
  go_wp2_with fail
  go_ret
  have at6 : (Value.slice A5 (xs.length + 1) c5).ownBlock = (Value.slice A xs.length c).ownBlock ∨ (Value.slice A5 (xs.length + 1) c5).ownBlock = some (w4.heap.size + 1) := by
    have e : (w4.alloc (.cells #[.int .i64 t, .string n, .int .i64 v] 227)).heap.size = w4.heap.size + 1 := by simp
    rw [← e]; exact at5
  clear at5
  obtain ⟨s1, s2⟩ := (pos_of hv0)
  have hlen : (xs ++ [(⟨t, n, v⟩ : LRow)]).length = xs.length + 1 := by simp
  have hx : Good (xs ++ [⟨t, n, v⟩]) := by
    have := h.X.add t n v true ht hn
    unfold Led.add at this
    simp only [if_true] at this
    rw [if_pos HM.out] at this
    exact this
  have hg5 : (Value.slice A5 (xs.length + 1) c5).ownBlock ≠ some p := own_type_ne own5 B5 (by decide)
  refine ⟨rfl, ⟨A5, c5, _, ⟨?_, ?_, M5.kept ((keep1 p _).setCell _ (.inl rfl) _) (fun e => hpm e.symm), ?_, hx⟩, ?_⟩, K5.setCell _ (.inl (.inl rfl)) _⟩
  · rw [hlen, earn_snoc, loss_snoc, s1, s2, Int.add_zero]
    exact B5.set_ 0 _
  · rw [hlen, flat_snoc]
    exact own_kept own5 ((keep1 p _).setCell _ (.inl rfl) _) (fun g _ _ hg e => hg5 (hg.trans (congrArg some e)))
  · have := add_V h.V ⟨t, n, v⟩
    simp only [s1, s2, Int.add_zero] at this
    exact this
  · rintro b (rfl | rfl | hb)
    · exact .inl (.inl rfl)
    · exact .inl (.inr (.inl rfl))
    · rw [own_same A5 0 0 (xs.length + 1) c5] at hb
      rcases at6 with h6 | h6
      · exact .inl (.inr (.inr (by rw [own_same A 0 0 xs.length c, ← h6, hb])))
      · rw [h6] at hb
        injection hb with hb
        exact .inr (by omega)

set_option maxRecDepth 100000 in
set_option maxHeartbeats 2000000 in
theorem lose_yes (p m : Nat) (A : Option Addr) (c : Nat) (l : List (ByteArray × Value)) (xs : List LRow) (t : Int) (n : ByteArray) (v : Int) (w : World) (hl : xs.length ≤ 99) (h : At w p m A c l xs) (hm : may xs t v (loss xs) = 0) (ht : t ≤ 9223372036854775807) (hn : n.size ≤ maxLen) :
    Calls Tryz.prog 79 #[.pointer (some ⟨p, 0, none⟩), .int .i64 t, .string n, .int .i64 v] w fun e w' => e = .returned (.int .i64 0) ∧ (∃ A' c' l', At w' p m A' c' l' (xs ++ [⟨t, n, (-v)⟩]) ∧ ∀ b, Foot p m A' b → Foot p m A b ∨ w.heap.size ≤ b) ∧ Keeps (Foot p m A) w w' := by
  obtain ⟨i0, hi0, hz0, hz1, hz2⟩ := info_parts infoR
  have hc1 := h.B.cellAt (i := 2) rfl
  obtain ⟨ht0, hv0, hlate, hv1⟩ := may_ok hm
  have HM := Lib.hid hm
  have HL := Lib.hid hlate
  have e0 := earn_nn xs
  have e1 := h.X.e
  have l0 := loss_nn xs
  have l1 := h.X.l
  have eo0 := earnOf_nn xs n
  have eo1 := earnOf_le xs n
  have lo0 := lossOf_nn xs n
  have lo1 := lossOf_le xs n
  clear hm hlate
  go_enter Tryz.func79, Tryz.ntmps79
  go_wp2_with fail
  refine (may_any p m A c l xs t v (loss xs) _ (by omega) h l0 l1).mono ?_
  rintro e w1 ⟨rfl, D1⟩
  have K1 := D1.keeps (Foot p m A)
  have H1 := h.stay (D1.keeps _)
  rw [HM.out]
  clear D1 hc1
  have hc1 := H1.B.cellAt (i := 2) rfl
  have hf1 := H1.B.frozen
  have hpm := H1.pm
  have M2 : MapIs Value.string (w1.setCell ⟨p, 2, none⟩ (.int .i64 (loss xs + v))) m l := H1.M.kept (S := (· = p)) ((keep1 p w1).setCell _ (.inl rfl) _) (fun e => hpm e.symm)
  have B2 : Blk (w1.setCell ⟨p, 2, none⟩ (.int .i64 (loss xs + v))) p 223 [.slice A xs.length c, .int .i64 (earn xs), .int .i64 (loss xs + v), .map (some m)] := H1.B.set_ 2 _
  have c3 := B2.cellAt (i := 3) rfl
  have hlk := M2.lookup (T := 220) (key_string Tryz.underlying9) Tryz.underlying220 (zeroB _) n false
  have hV := H1.V n
  have hlk' : (Instr.lookup 220 (.map (some m)) (.string n) false).run Tryz.prog (w1.setCell ⟨p, 2, none⟩ (.int .i64 (loss xs + v))) = .ok (.agg #[.int .i64 (earnOf xs n), .int .i64 (lossOf xs n)]) (w1.setCell ⟨p, 2, none⟩ (.int .i64 (loss xs + v))) := by
    refine hlk.trans ?_
    rw [if_neg (by decide), hV]
  clear hlk hV
  go_wp2_with fail
  have K2 : Keeps (Foot p m A) w (w1.setCell ⟨p, 2, none⟩ (.int .i64 (loss xs + v))) := K1.setCell _ (.inl (.inl rfl)) _
  have G2 : (w1.setCell ⟨p, 2, none⟩ (.int .i64 (loss xs + v))).ownsRow 0 227 3 (.slice A xs.length c) xs.length (xs.flatMap cf) := own_kept H1.G (S := (· = p)) ((keep1 p w1).setCell _ (.inl rfl) _) (fun g _ _ hg e => H1.gp _ _ (hg.trans (congrArg some e)))
  have hsz : (w1.setCell ⟨p, 2, none⟩ (.int .i64 (loss xs + v))).heap.size = w1.heap.size := by simp [World.setCell]
  generalize w1.setCell ⟨p, 2, none⟩ (.int .i64 (loss xs + v)) = w2 at *
  have hpl := B2.lt
  have hml := M2.lt
  have Q3 : Blk (w2.alloc (.cells #[.int .i64 (earnOf xs n), .int .i64 (lossOf xs n)] 225)) w2.heap.size 225 [.int .i64 (earnOf xs n), .int .i64 (lossOf xs n)] := Blk.new w2 _ _
  have B3 := B2.alloc (.cells #[.int .i64 (earnOf xs n), .int .i64 (lossOf xs n)] 225)
  have M3 := M2.kept ((Keeps.refl (fun _ => False) w2).alloc (.cells #[.int .i64 (earnOf xs n), .int .i64 (lossOf xs n)] 225)) (fun h => h)
  have G3 := own_kept G2 ((Keeps.refl (fun _ => False) w2).alloc (.cells #[.int .i64 (earnOf xs n), .int .i64 (lossOf xs n)] 225)) (fun _ _ _ _ h => h)
  have K3 := K2.alloc (.cells #[.int .i64 (earnOf xs n), .int .i64 (lossOf xs n)] 225)
  clear M2 B2 c3 hlk' K2 G2 hc1 hf1
  rw [hsz] at Q3 hpl hml
  clear hsz
  generalize w1.heap.size = q at *
  generalize w2.alloc (.cells #[.int .i64 (earnOf xs n), .int .i64 (lossOf xs n)] 225) = w3 at *
  have c3 := B3.cellAt (i := 3) rfl
  have q0 := Q3.cellAt (i := 0) rfl
  have q1 := Q3.cellAt (i := 1) rfl
  have hw : IntKind.i64.wrap (lossOf xs n + v) = lossOf xs n + v := IntWalk.i64_in _ (by omega)
  go_still_tail 12, (by kernel_rfl)
  clear hw
  refine wpList_update_is (w := w3.drew) (m := m) (l := l) (by exact M3) (key_string Tryz.underlying9) Tryz.underlying220 rfl (.tmp 39) (.tmp 40) (.tmp 47) rfl n (.agg #[.int .i64 (earnOf xs n), .int .i64 (lossOf xs n + v)]) rfl rfl rfl ?_
  intro w4 M4 k4
  have hgm := fun n' c' => H1.gm n' c'
  have hgp := fun n' c' => H1.gp n' c'
  have K4 : Keeps (Foot p m A) w w4 := K3.drew.trans k4 (fun i _ hi => .inr (.inl hi))
  have B4 := B3.drew.kept k4 hpm
  have G4 := own_kept (w := w3.drew) G3 k4 (fun g _ _ hg e => hgm _ _ (hg.trans (congrArg some e)))
  clear M3 B3 G3 K3 k4 Q3 c3 q0 q1 H1 K1
  have d0 := B4.cellAt (i := 0) rfl
  go_wp2_with (at_builtin; refine wpList_append_has rfl (.tmp 52) (.tmp 58) 221 rfl i0 _ 32 Tryz.underlying221 hi0 hz0 hz1 hz2 rfl (by omega) rfl (own_kept G4 ((Keeps.refl (fun _ => False) w4).alloc _) (fun _ _ _ _ h => h)) (some ⟨w4.heap.size, 0, none⟩) 1 1 (cf ⟨t, n, (-v)⟩) rfl (Has.box w4 227 3 1 (cf ⟨t, n, (-v)⟩) rfl (by unfold maxLen; omega)) (by have := cells_one [⟨t, n, (-v)⟩]; simpa using this) (by unfold maxLen; omega) (by omega) (by omega) ?_; intro v5 w5 own5 g5 at5; obtain ⟨A5, c5, hv5⟩ := own_shape own5; subst hv5; have hgp4 := hgp xs.length c; have hgm4 := hgm xs.length c; have K5 : Keeps (Foot p m A) w w5 := keeps_grown (K4.alloc _) g5 (fun g hg => .inl (.inr (.inr ((own_same A _ _ _ _).trans hg)))); have B5 := (B4.alloc _).grown g5 hgp4; have M5 := (M4.kept ((Keeps.refl (fun _ => False) w4).alloc _) (fun h => h)).kept (S := fun g => (Value.slice A xs.length c).ownBlock = some g) (keeps_grown (Keeps.refl _ _) g5 (fun g hg => .inl hg)) hgm4; have z4 := K4.size; clear g5 M4 B4 G4 d0 K4; have hf5 := B5.frozen; have d5 := B5.cellAt (i := 0) rfl)
  go_wp2_with fail
  go_ret
  have at6 : (Value.slice A5 (xs.length + 1) c5).ownBlock = (Value.slice A xs.length c).ownBlock ∨ (Value.slice A5 (xs.length + 1) c5).ownBlock = some (w4.heap.size + 1) := by
    have e : (w4.alloc (.cells #[.int .i64 t, .string n, .int .i64 (-v)] 227)).heap.size = w4.heap.size + 1 := by simp
    rw [← e]; exact at5
  clear at5
  obtain ⟨s1, s2⟩ := (neg_of hv0)
  have hlen : (xs ++ [(⟨t, n, (-v)⟩ : LRow)]).length = xs.length + 1 := by simp
  have hx : Good (xs ++ [⟨t, n, (-v)⟩]) := by
    have := h.X.add t n v false ht hn
    unfold Led.add at this
    simp only [Bool.false_eq_true, if_false] at this
    rw [if_pos HM.out] at this
    exact this
  have hg5 : (Value.slice A5 (xs.length + 1) c5).ownBlock ≠ some p := own_type_ne own5 B5 (by decide)
  refine ⟨rfl, ⟨A5, c5, _, ⟨?_, ?_, M5.kept ((keep1 p _).setCell _ (.inl rfl) _) (fun e => hpm e.symm), ?_, hx⟩, ?_⟩, K5.setCell _ (.inl (.inl rfl)) _⟩
  · rw [hlen, earn_snoc, loss_snoc, s1, s2, Int.add_zero]
    exact B5.set_ 0 _
  · rw [hlen, flat_snoc]
    exact own_kept own5 ((keep1 p _).setCell _ (.inl rfl) _) (fun g _ _ hg e => hg5 (hg.trans (congrArg some e)))
  · have := add_V h.V ⟨t, n, (-v)⟩
    simp only [s1, s2, Int.add_zero] at this
    exact this
  · rintro b (rfl | rfl | hb)
    · exact .inl (.inl rfl)
    · exact .inl (.inr (.inl rfl))
    · rw [own_same A5 0 0 (xs.length + 1) c5] at hb
      rcases at6 with h6 | h6
      · exact .inl (.inr (.inr (by rw [own_same A 0 0 xs.length c, ← h6, hb])))
      · rw [h6] at hb
        injection hb with hb
        exact .inr (by omega)
end Led
end Go.Proofs.YtbgiegecfapmlaaGreatDoor

namespace Go.Proofs.YtbgiegecfapmlaaGreatDoor
open Go.RowKit
set_option linter.unusedVariables false
set_option linter.unusedSimpArgs false
namespace Led

set_option maxHeartbeats 1000000 in
theorem earn_no (p m : Nat) (A : Option Addr) (c : Nat) (l : List (ByteArray × Value)) (xs : List LRow) (t : Int) (n : ByteArray) (v : Int) (w : World) (hl : xs.length ≤ 99) (h : At w p m A c l xs) (r : Int) (hm : may xs t v (earn xs) = r) (hr : r ≠ 0) :
    Calls Tryz.prog 78 #[.pointer (some ⟨p, 0, none⟩), .int .i64 t, .string n, .int .i64 v] w fun e w' => e = .returned (.int .i64 r) ∧ Drawn w w' := by
  have hc1 := h.B.cellAt (i := 1) rfl
  have HM := Lib.hid hm
  have hrb : (r != 0) = true := by simpa using hr
  have e0 := earn_nn xs
  have e1 := h.X.e
  have l0 := loss_nn xs
  have l1 := h.X.l
  clear hm hr
  go_enter Tryz.func78, Tryz.ntmps78
  go_wp2_with fail
  refine (may_any p m A c l xs t v (earn xs) _ (by omega) h e0 e1).mono ?_
  rintro e w1 ⟨rfl, D1⟩
  rw [HM.out]
  go_wp2_with fail
  go_ret
  exact ⟨rfl, D1⟩
theorem earn_any (p : Nat) (F : Nat → Prop) (xs : List LRow) (t : Int) (n : ByteArray) (v : Int) (w : World) (hl : xs.length ≤ 99) (h : Is w p F xs) (ht : t ≤ 9223372036854775807) (hn : n.size ≤ maxLen) (r : Int) (ys : List LRow) (hs : add xs t n v true = (r, ys)) :
    Calls Tryz.prog 78 #[.pointer (some ⟨p, 0, none⟩), .int .i64 t, .string n, .int .i64 v] w fun e w' => e = .returned (.int .i64 r) ∧ (∃ F', Is w' p F' ys ∧ ∀ b, F' b → F b ∨ w.heap.size ≤ b) ∧ Keeps F w w' := by
  obtain ⟨m, A, c, l, ha, rfl⟩ := h
  unfold add at hs
  simp only [if_true] at hs
  by_cases hm : may xs t v (earn xs) = 0
  · rw [if_pos hm] at hs
    cases hs
    refine (earn_yes p m A c l xs t n v w hl ha hm ht hn).mono ?_
    rintro e w' ⟨he, ⟨A', c', l', h1, h2⟩, hk⟩
    exact ⟨he, ⟨Foot p m A', ⟨m, A', c', l', h1, rfl⟩, h2⟩, hk⟩
  · rw [if_neg hm] at hs
    cases hs
    refine (earn_no p m A c l xs t n v w hl ha _ rfl hm).mono ?_
    rintro e w' ⟨he, hd⟩
    exact ⟨he, ⟨Foot p m A, ⟨m, A, c, l, ha.stay (hd.keeps _), rfl⟩, fun b hb => .inl hb⟩, hd.keeps _⟩
/-- .. of a Ledger of the call's own. -/
theorem earn_own {B : Nat} {w0 : World} (p : Nat) (F : Nat → Prop) (xs : List LRow) (t : Int) (n : ByteArray) (v : Int) (w : World) (hl : xs.length ≤ 99) (h : Is w p F xs) (ht : t ≤ 9223372036854775807) (hn : n.size ≤ maxLen) (r : Int) (ys : List LRow) (hs : add xs t n v true = (r, ys))
    (hB : Below B w0 w) (hz : B ≤ w.heap.size) (hF : ∀ b, F b → B ≤ b) :
    Calls Tryz.prog 78 #[.pointer (some ⟨p, 0, none⟩), .int .i64 t, .string n, .int .i64 v] w fun e w' => e = .returned (.int .i64 r) ∧ ∃ F', Is w' p F' ys ∧ (∀ b, F' b → B ≤ b) ∧ Below B w0 w' ∧ B ≤ w'.heap.size := by
  refine (earn_any p F xs t n v w hl h ht hn r ys hs).mono ?_
  rintro e w' ⟨he, ⟨F', h1, h2⟩, hk⟩
  exact ⟨he, F', h1, fun b hb => (h2 b hb).elim (hF b) (fun h => Nat.le_trans hz h), below_keeps hB hk hz hF, Nat.le_trans hz hk.size⟩

set_option maxHeartbeats 1000000 in
theorem lose_no (p m : Nat) (A : Option Addr) (c : Nat) (l : List (ByteArray × Value)) (xs : List LRow) (t : Int) (n : ByteArray) (v : Int) (w : World) (hl : xs.length ≤ 99) (h : At w p m A c l xs) (r : Int) (hm : may xs t v (loss xs) = r) (hr : r ≠ 0) :
    Calls Tryz.prog 79 #[.pointer (some ⟨p, 0, none⟩), .int .i64 t, .string n, .int .i64 v] w fun e w' => e = .returned (.int .i64 r) ∧ Drawn w w' := by
  have hc1 := h.B.cellAt (i := 2) rfl
  have HM := Lib.hid hm
  have hrb : (r != 0) = true := by simpa using hr
  have e0 := earn_nn xs
  have e1 := h.X.e
  have l0 := loss_nn xs
  have l1 := h.X.l
  clear hm hr
  go_enter Tryz.func79, Tryz.ntmps79
  go_wp2_with fail
  refine (may_any p m A c l xs t v (loss xs) _ (by omega) h l0 l1).mono ?_
  rintro e w1 ⟨rfl, D1⟩
  rw [HM.out]
  go_wp2_with fail
  go_ret
  exact ⟨rfl, D1⟩
theorem lose_any (p : Nat) (F : Nat → Prop) (xs : List LRow) (t : Int) (n : ByteArray) (v : Int) (w : World) (hl : xs.length ≤ 99) (h : Is w p F xs) (ht : t ≤ 9223372036854775807) (hn : n.size ≤ maxLen) (r : Int) (ys : List LRow) (hs : add xs t n v false = (r, ys)) :
    Calls Tryz.prog 79 #[.pointer (some ⟨p, 0, none⟩), .int .i64 t, .string n, .int .i64 v] w fun e w' => e = .returned (.int .i64 r) ∧ (∃ F', Is w' p F' ys ∧ ∀ b, F' b → F b ∨ w.heap.size ≤ b) ∧ Keeps F w w' := by
  obtain ⟨m, A, c, l, ha, rfl⟩ := h
  unfold add at hs
  simp only [Bool.false_eq_true, if_false] at hs
  by_cases hm : may xs t v (loss xs) = 0
  · rw [if_pos hm] at hs
    cases hs
    refine (lose_yes p m A c l xs t n v w hl ha hm ht hn).mono ?_
    rintro e w' ⟨he, ⟨A', c', l', h1, h2⟩, hk⟩
    exact ⟨he, ⟨Foot p m A', ⟨m, A', c', l', h1, rfl⟩, h2⟩, hk⟩
  · rw [if_neg hm] at hs
    cases hs
    refine (lose_no p m A c l xs t n v w hl ha _ rfl hm).mono ?_
    rintro e w' ⟨he, hd⟩
    exact ⟨he, ⟨Foot p m A, ⟨m, A, c, l, ha.stay (hd.keeps _), rfl⟩, fun b hb => .inl hb⟩, hd.keeps _⟩
/-- .. of a Ledger of the call's own. -/
theorem lose_own {B : Nat} {w0 : World} (p : Nat) (F : Nat → Prop) (xs : List LRow) (t : Int) (n : ByteArray) (v : Int) (w : World) (hl : xs.length ≤ 99) (h : Is w p F xs) (ht : t ≤ 9223372036854775807) (hn : n.size ≤ maxLen) (r : Int) (ys : List LRow) (hs : add xs t n v false = (r, ys))
    (hB : Below B w0 w) (hz : B ≤ w.heap.size) (hF : ∀ b, F b → B ≤ b) :
    Calls Tryz.prog 79 #[.pointer (some ⟨p, 0, none⟩), .int .i64 t, .string n, .int .i64 v] w fun e w' => e = .returned (.int .i64 r) ∧ ∃ F', Is w' p F' ys ∧ (∀ b, F' b → B ≤ b) ∧ Below B w0 w' ∧ B ≤ w'.heap.size := by
  refine (lose_any p F xs t n v w hl h ht hn r ys hs).mono ?_
  rintro e w' ⟨he, ⟨F', h1, h2⟩, hk⟩
  exact ⟨he, F', h1, fun b hb => (h2 b hb).elim (hF b) (fun h => Nat.le_trans hz h), below_keeps hB hk hz hF, Nat.le_trans hz hk.size⟩

theorem earned_any (p : Nat) (F : Nat → Prop) (xs : List LRow) (w : World) (h : Is w p F xs) :
    Calls Tryz.prog 80 #[.pointer (some ⟨p, 0, none⟩)] w fun e w' => e = .returned (.int .i64 (earn xs)) ∧ w = w' := by
  obtain ⟨m, A, c, l, ha, rfl⟩ := h
  have hc1 := ha.B.cellAt (i := 1) rfl
  go_enter Tryz.func80, Tryz.ntmps80
  go_wp2_with fail
  go_ret
  exact ⟨rfl, rfl⟩

theorem lost_any (p : Nat) (F : Nat → Prop) (xs : List LRow) (w : World) (h : Is w p F xs) :
    Calls Tryz.prog 81 #[.pointer (some ⟨p, 0, none⟩)] w fun e w' => e = .returned (.int .i64 (loss xs)) ∧ w = w' := by
  obtain ⟨m, A, c, l, ha, rfl⟩ := h
  have hc1 := ha.B.cellAt (i := 2) rfl
  go_enter Tryz.func81, Tryz.ntmps81
  go_wp2_with fail
  go_ret
  exact ⟨rfl, rfl⟩

end Led
end Go.Proofs.YtbgiegecfapmlaaGreatDoor

namespace Go.Proofs.YtbgiegecfapmlaaGreatDoor
open Go.RowKit
set_option linter.unusedVariables false
set_option linter.unusedSimpArgs false
/-- What became of a job. -/
structure Fa where
  k : Int
  t : Int
namespace Fate
def cf (f : Fa) : List Value := [.int .i64 f.k, .int .i64 f.t]
theorem cf_len (f : Fa) : (cf f).length = 2 := rfl
theorem infoF : (Tryz.prog.info? 53).map (fun i => (i.zero, i.size, i.bytes)) = some (some (.agg #[.int .i64 0, .int .i64 0]), 2, 16) := by kernel_rfl
theorem infoI : (Tryz.prog.info? 3).map (fun i => (i.zero, i.size, i.bytes)) = some (some (.int .i64 0), 1, 8) := by kernel_rfl
/-- The Book at block p, its list at block g. -/
structure At (w : World) (p g : Nat) (xs : List Fa) : Prop where
  B : Blk w p 154 [.slice (some ⟨g, 0, none⟩) xs.length xs.length]
  G : Blk w g 53 (xs.flatMap cf)
theorem At.ne {w : World} {p g : Nat} {xs : List Fa} (h : At w p g xs) : p ≠ g := Blk.ne_ h.B h.G (by decide)
theorem At.kept {w w' : World} {p g : Nat} {xs : List Fa} {S : Nat → Prop} (h : At w p g xs) (k : Keeps S w w') (hp : ¬ S p) (hg : ¬ S g) : At w' p g xs := ⟨h.B.kept k hp, h.G.kept k hg⟩
theorem At.cell {w : World} {p g : Nat} {xs : List Fa} (h : At w p g xs) {i : Nat} {f : Fa} (hf : xs[i]? = some f) :
    w.cell? ⟨g, i * 2, none⟩ = some (.int .i64 f.k) ∧ w.cell? ⟨g, i * 2 + 1, none⟩ = some (.int .i64 f.t) :=
  ⟨h.G.cellAt (flat_at cf_len hf (j := 0) rfl), h.G.cellAt (flat_at cf_len hf (j := 1) rfl)⟩
set_option maxRecDepth 100000 in
set_option maxHeartbeats 400000 in
theorem new_any (n : Nat) (w : World) (hn : n ≤ 200) :
    Calls Tryz.prog 38 #[.int .i64 (n : Int)] w fun e w' => ∃ p g, e = .returned (.tuple #[.pointer (some ⟨p, 0, none⟩), .int .i64 0]) ∧ w.heap.size ≤ p ∧ w.heap.size ≤ g ∧ At w' p g (List.replicate n ⟨0, 0⟩) ∧ Keeps (fun _ => False) w w' := by
  obtain ⟨i0, hi0, hz0, hz1, hz2⟩ := info_parts infoF
  have hmk : ∀ W : World, (Instr.makeSlice 40 (.int .i64 (n : Int)) (.int .i64 (n : Int))).run Tryz.prog W = .ok (.slice (some ⟨W.heap.size, 0, none⟩) n n) (W.alloc (.cells ((List.replicate n (⟨0, 0⟩ : Fa)).flatMap cf).toArray 53)) := by
    intro W
    have := run_make (P := Tryz.prog) (w := W) 40 53 i0 _ Tryz.underlying40 hi0 hz0 .i64 .i64 (n : Int) (n : Int) (by omega) (by omega) (by rw [hz2]; omega) (by omega)
    simp only [Int.toNat_natCast, hz1] at this
    rw [this]
    have := made_cells cf_len (by omega) (⟨0, 0⟩ : Fa) n
    simp only [Value.cells]
    rw [← this]; rfl
  obtain ⟨Z, hZ⟩ : ∃ Z, Z = (List.replicate n (⟨0, 0⟩ : Fa)).flatMap cf := ⟨_, rfl⟩
  obtain ⟨Za, hZa⟩ : ∃ Za, Za = Z.toArray := ⟨_, rfl⟩
  rw [← hZ, ← hZa] at hmk
  have HZ := Lib.hid hZ
  have HZa := Lib.hid hZa
  clear hZ hZa hi0 hz0 hz1 hz2
  go_enter Tryz.func38, Tryz.ntmps38
  go_wp2
  go_ret2
  refine ⟨w.heap.size + 1, w.heap.size, rfl, by omega, by omega, ⟨?_, ?_⟩, ((Keeps.refl _ _).alloc _).alloc _⟩
  · have := Blk.new (w.alloc (.cells Za 53)) 154 [.slice (some ⟨w.heap.size, 0, none⟩) n n]
    simpa using this
  · rw [← HZ.out, HZa.out]; exact (Blk.new w _ _).alloc _
set_option maxHeartbeats 400000 in
theorem new_no (n : Int) (w : World) (hn : n < 0 ∨ 200 < n) :
    Calls Tryz.prog 38 #[.int .i64 n] w fun e w' => e = .returned (.tuple #[.pointer none, .int .i64 1]) ∧ w = w' := by
  by_cases h : n < 0
  · go_enter Tryz.func38, Tryz.ntmps38
    go_wp2
    go_ret2
    exact ⟨rfl, rfl⟩
  · go_enter Tryz.func38, Tryz.ntmps38
    go_wp2
    go_ret2
    exact ⟨rfl, rfl⟩
def inR (xs : List Fa) (i : Int) : Bool := decide (0 ≤ i ∧ i < xs.length)
set_option maxHeartbeats 400000 in
theorem has_any (p g : Nat) (xs : List Fa) (i : Int) (w : World) (hl : xs.length ≤ 200) (h : At w p g xs) :
    Calls Tryz.prog 74 #[.pointer (some ⟨p, 0, none⟩), .int .i64 i] w fun e w' => e = .returned (.bool (inR xs i)) ∧ w = w' := by
  have c0 := h.B.cellAt (i := 0) rfl
  clear h
  unfold inR
  by_cases h0 : 0 ≤ i
  · go_enter Tryz.func74, Tryz.ntmps74
    go_wp2
    go_ret
    exact ⟨by simp [h0], rfl⟩
  · go_enter Tryz.func74, Tryz.ntmps74
    go_wp2
    go_ret
    exact ⟨by simp; omega, rfl⟩
/-- Say: what it answers, and the list behind it. -/
def say (xs : List Fa) (i k t : Int) : Int × List Fa :=
  if ¬ (0 ≤ i ∧ i < xs.length) ∨ k < 1 ∨ 5 < k ∨ t < 0 then (1, xs)
  else if (xs[i.toNat]?.map Fa.k) ≠ some 0 then (5, xs)
  else (0, xs.set i.toNat ⟨k, t⟩)
theorem say_len (xs : List Fa) (i k t : Int) : (say xs i k t).2.length = xs.length := by
  unfold say
  (repeat' split) <;> simp
theorem say_no (p g : Nat) (xs : List Fa) (i k t : Int) (w : World) (hl : xs.length ≤ 200) (h : At w p g xs) (hb : ¬ (0 ≤ i ∧ i < xs.length) ∨ k < 1 ∨ 5 < k ∨ t < 0) :
    Calls Tryz.prog 39 #[.pointer (some ⟨p, 0, none⟩), .int .i64 i, .int .i64 k, .int .i64 t] w fun e w' => e = .returned (.int .i64 1) ∧ w = w' := by
  obtain ⟨r, hr⟩ : ∃ r, inR xs i = r := ⟨_, rfl⟩
  have HR := Lib.hid hr
  cases r with
  | false =>
    clear hr hb
    go_enter Tryz.func39, Tryz.ntmps39
    go_wp2_with fail
    refine (has_any p g xs i _ hl h).mono ?_
    rintro e w1 ⟨rfl, rfl⟩
    rw [HR.out]
    go_wp2_with fail
    go_ret
    exact ⟨rfl, rfl⟩
  | true =>
    have hb' : k < 1 ∨ 5 < k ∨ t < 0 := by
      unfold inR at hr
      rw [decide_eq_true_eq] at hr
      omega
    clear hr hb
    go_enter Tryz.func39, Tryz.ntmps39
    go_wp2_with fail
    refine (has_any p g xs i _ hl h).mono ?_
    rintro e w1 ⟨rfl, rfl⟩
    rw [HR.out]
    go_wp2_with fail
    all_goals go_ret
    all_goals exact ⟨rfl, rfl⟩
set_option maxHeartbeats 1000000 in
theorem say_yes (p g : Nat) (xs : List Fa) (i : Nat) (f : Fa) (k t : Int) (w : World) (hl : xs.length ≤ 200) (h : At w p g xs) (hf : xs[i]? = some f) (h1 : 1 ≤ k) (h2 : k ≤ 5) (h3 : 0 ≤ t) (r : Int) (ys : List Fa) (hs : say xs i k t = (r, ys)) :
    Calls Tryz.prog 39 #[.pointer (some ⟨p, 0, none⟩), .int .i64 (i : Int), .int .i64 k, .int .i64 t] w fun e w' => e = .returned (.int .i64 r) ∧ At w' p g ys ∧ Keeps (· = g) w w' := by
  have hlt : i < xs.length := (List.getElem?_eq_some_iff.1 hf).1
  have hli : (i : Int) < (xs.length : Int) := by omega
  have hr : inR xs i = true := by simp [inR]; omega
  have c0 := h.B.cellAt (i := 0) rfl
  obtain ⟨d0, d1⟩ := h.cell hf
  have fz := h.G.frozen
  have HR := Lib.hid hr
  have hsay : say xs i k t = if f.k = 0 then (0, xs.set i ⟨k, t⟩) else (5, xs) := by
    unfold say
    rw [if_neg (by omega), Int.toNat_natCast, hf]
    by_cases hk : f.k = 0
    · rw [if_pos hk, if_neg (by simp [hk])]
    · rw [if_neg hk, if_pos (by simp [hk])]
  rw [hs] at hsay
  have HS := Lib.hid hsay
  have HF := Lib.hid hf
  clear hr hsay hs hf
  by_cases hk : f.k = 0
  · have hkb : (f.k != 0) = false := by simp [hk]
    have HK := Lib.hid hk
    clear hk
    go_enter Tryz.func39, Tryz.ntmps39
    go_wp2_with fail
    refine (has_any p g xs i _ hl h).mono ?_
    rintro e w1 ⟨rfl, rfl⟩
    rw [HR.out]
    go_wp2_with fail
    go_ret
    have he := HS.out
    rw [if_pos HK.out] at he
    cases he
    have hne := h.ne
    refine ⟨rfl, ⟨?_, ?_⟩, ((keep1 g w).setCell _ (.inl rfl) _).setCell _ (.inl rfl) _⟩
    · rw [List.length_set]; exact (h.B.far (p := ⟨g, i * 2, none⟩) hne _).far (p := ⟨g, i * 2 + 1, none⟩) hne _
    · rw [flat_set cf_len (by omega)]; exact (h.G.set_ (i * 2) _).set_ (i * 2 + 1) _
  · have hkb : (f.k != 0) = true := by simp [hk]
    have HK := Lib.hid hk
    clear hk
    go_enter Tryz.func39, Tryz.ntmps39
    go_wp2_with fail
    refine (has_any p g xs i _ hl h).mono ?_
    rintro e w1 ⟨rfl, rfl⟩
    rw [HR.out]
    go_wp2_with fail
    go_ret
    have he := HS.out
    rw [if_neg HK.out] at he
    cases he
    exact ⟨rfl, h, Keeps.refl _ _⟩
set_option maxHeartbeats 1000000 in
theorem of_any (p g : Nat) (xs : List Fa) (i : Nat) (f : Fa) (w : World) (hl : xs.length ≤ 200) (h : At w p g xs) (hf : xs[i]? = some f) :
    Calls Tryz.prog 77 #[.pointer (some ⟨p, 0, none⟩), .int .i64 (i : Int)] w fun e w' => e = .returned (.tuple #[.agg #[.int .i64 f.k, .int .i64 f.t], .bool true]) ∧ Keeps (fun _ => False) w w' := by
  have hlt : i < xs.length := (List.getElem?_eq_some_iff.1 hf).1
  have hli : (i : Int) < (xs.length : Int) := by omega
  have hr : inR xs i = true := by simp [inR]; omega
  have HR := Lib.hid hr
  have h' : At (w.alloc (.cells #[.int .i64 0, .int .i64 0] 53)) p g xs := h.kept ((Keeps.refl (fun _ => False) w).alloc _) (fun h => h) (fun h => h)
  have c0 := h'.B.cellAt (i := 0) rfl
  obtain ⟨d0, d1⟩ := h'.cell hf
  clear hr hf
  go_enter Tryz.func77, Tryz.ntmps77
  go_wp2_with fail
  refine (has_any p g xs i _ hl h').mono ?_
  rintro e w1 ⟨rfl, rfl⟩
  rw [HR.out]
  go_wp2_with fail
  exact bodyPost_ret (v := .tuple #[.agg #[.int .i64 f.k, .int .i64 f.t], .bool true]) (by simp [results, Tryz.results77, go_sem]) rfl ⟨rfl, by repeat (first | exact Keeps.refl _ _ | apply Keeps.alloc)⟩
set_option maxHeartbeats 1000000 in
theorem of_no (p g : Nat) (xs : List Fa) (i : Int) (w : World) (hl : xs.length ≤ 200) (h : At w p g xs) (hf : ¬ (0 ≤ i ∧ i < xs.length)) :
    Calls Tryz.prog 77 #[.pointer (some ⟨p, 0, none⟩), .int .i64 i] w fun e w' => e = .returned (.tuple #[.agg #[.int .i64 0, .int .i64 0], .bool false]) ∧ Keeps (fun _ => False) w w' := by
  have hr : inR xs i = false := by simp [inR]; omega
  have HR := Lib.hid hr
  have h' : At (w.alloc (.cells #[.int .i64 0, .int .i64 0] 53)) p g xs := h.kept ((Keeps.refl (fun _ => False) w).alloc _) (fun h => h) (fun h => h)
  clear hr
  go_enter Tryz.func77, Tryz.ntmps77
  go_wp2_with fail
  refine (has_any p g xs i _ hl h').mono ?_
  rintro e w1 ⟨rfl, rfl⟩
  rw [HR.out]
  go_wp2_with fail
  exact bodyPost_ret (v := .tuple #[.agg #[.int .i64 0, .int .i64 0], .bool false]) (by simp [results, Tryz.results77, go_sem]) rfl ⟨rfl, by repeat (first | exact Keeps.refl _ _ | apply Keeps.alloc)⟩
/-- Behind a new block: the same Book. -/
theorem At.alloc {w : World} {p g : Nat} {xs : List Fa} (h : At w p g xs) (o : Obj) : At (w.alloc o) p g xs := h.kept ((Keeps.refl (fun _ => False) w).alloc _) (fun h => h) (fun h => h)
theorem At.none {w w' : World} {p g : Nat} {xs : List Fa} (h : At w p g xs) (k : Keeps (fun _ => False) w w') : At w' p g xs := h.kept k (fun h => h) (fun h => h)
theorem cells_one (xs : List Fa) : ∀ u ∈ xs.flatMap cf, u.oneCell' = true := by
  intro u hu
  obtain ⟨f, _, hf⟩ := List.mem_flatMap.1 hu
  simp [cf] at hf
  rcases hf with rfl | rfl <;> rfl
set_option maxRecDepth 100000 in
set_option maxHeartbeats 1000000 in
theorem clone_any (A : Option Addr) (c : Nat) (xs : List Fa) (w : World) (hl : xs.length ≤ 200) (hA : A ≠ none) (h : Has w 53 2 (.slice A xs.length c) xs.length (xs.flatMap cf)) :
    Calls Tryz.prog 75 #[.slice A xs.length c] w fun e w' => ∃ A' c', e = .returned (.slice A' xs.length c') ∧ Has w' 53 2 (.slice A' xs.length c') xs.length (xs.flatMap cf) ∧ (∀ g o, A' = some ⟨g, o, none⟩ → w.heap.size ≤ g) ∧ Keeps (fun _ => False) w w' := by
  obtain ⟨i0, hi0, hz0, hz1, hz2⟩ := info_parts infoF
  obtain ⟨ad, rfl⟩ : ∃ ad, A = some ad := by cases A with | none => exact absurd rfl hA | some ad => exact ⟨ad, rfl⟩
  have hnil := fun (W : World) (a : Option Addr) (n c n' c' : Nat) => Lib.run_eql_slice_nil (P := Tryz.prog) W 40 53 a n c n' c' Tryz.underlying40
  clear hA
  go_enter Tryz.func75, Tryz.ntmps75
  go_wp2_with (at_builtin; refine wpList_append_has rfl (.tmp 5) (.tmp 6) 40 rfl i0 _ 16 Tryz.underlying40 hi0 hz0 hz1 hz2 rfl (by omega) rfl (own_empty w w.heap.size 53 2 (Nat.le_refl _)) (some ad) xs.length c (xs.flatMap cf) rfl (h.kept ((Keeps.refl (fun _ => False) _).alloc _) (fun _ _ _ _ h => h)) (cells_one _) (by unfold maxLen; omega) (by omega) (by simp) ?_; intro v1 w1 own1 g1 at1)
  have K1 : Keeps (fun _ => False) w w1 := keeps_grown ((Keeps.refl _ _).alloc _) g1 (fun g h => .inr (Nat.le_of_eq (slice_block h)))
  simp only [Nat.zero_add, List.nil_append] at own1
  obtain ⟨A2, c2, hv2⟩ := own_shape own1
  subst hv2
  have HH := Has.of_own own1
  have hb : ∀ g o, A2 = some ⟨g, o, none⟩ → w.heap.size ≤ g := fun g o he => (own1.lt g (by rw [he]; rfl)).1
  clear own1 g1 at1
  go_wp2_with fail
  go_ret
  exact ⟨A2, c2, rfl, HH, hb, K1⟩
theorem all_any (p g : Nat) (xs : List Fa) (w : World) (hl : xs.length ≤ 200) (h : At w p g xs) :
    Calls Tryz.prog 42 #[.pointer (some ⟨p, 0, none⟩)] w fun e w' => ∃ A' c', e = .returned (.slice A' xs.length c') ∧ Has w' 53 2 (.slice A' xs.length c') xs.length (xs.flatMap cf) ∧ (∀ g o, A' = some ⟨g, o, none⟩ → w.heap.size ≤ g) ∧ Keeps (fun _ => False) w w' := by
  have c0 := h.B.cellAt (i := 0) rfl
  have hh : Has w 53 2 (.slice (some ⟨g, 0, none⟩) xs.length xs.length) xs.length (xs.flatMap cf) :=
    ⟨flat_length cf_len xs, .inr ⟨g, 0, xs.length, (xs.flatMap cf).toArray, rfl, Nat.le_refl _, by unfold maxLen; omega, h.G, fun j u hu => by simpa using hu⟩⟩
  go_enter Tryz.func42, Tryz.ntmps42
  go_wp2_with fail
  refine (clone_any (some ⟨g, 0, none⟩) xs.length xs _ hl (by simp) hh).mono ?_
  rintro e w1 ⟨A', c', rfl, H1, H2, k1⟩
  go_wp2_with fail
  go_ret
  exact ⟨A', c', rfl, H1, H2, k1⟩
end Fate
end Go.Proofs.YtbgiegecfapmlaaGreatDoor
