/- Maps with int keys as association lists: what a look-up, a store, a deletion and len come to. -/
import Derived.WalkKit
import Derived.Carry
import Derived.RangeFuncBox
set_option linter.unusedVariables false
set_option linter.unusedSimpArgs false
namespace Go.Proofs.Ytilfngegmdedpaa
open Go.RowKit
variable {P : Program}

/-- An int map's entries, in the order in which they lie. -/
def Ents (m : List (Int × Value)) (es : Array MapEntry) : Prop := es.toList.map (fun e => (e.key, e.val)) = m.map fun p => (Value.int .i64 p.1, p.2)

/-- Block b holds a map of these entries. -/
def IntMap (w : World) (b : Nat) (m : List (Int × Value)) : Prop :=
  ∃ es clock, w.heap[b]? = some (.map es clock) ∧ Ents m es ∧ (∀ e ∈ es.toList, e.born < clock) ∧ (es.toList.map (·.born)).Nodup

theorem IntMap.lt {w : World} {b : Nat} {m : List (Int × Value)} (h : IntMap w b m) : b < w.heap.size := by
  obtain ⟨es, clock, hb, _⟩ := h
  exact (Array.getElem?_eq_some_iff.1 hb).1
theorem IntMap.same {w w' : World} {b : Nat} {m : List (Int × Value)} (h : IntMap w b m) (e : w'.heap[b]? = w.heap[b]?) : IntMap w' b m := by
  obtain ⟨es, clock, hb, r⟩ := h
  exact ⟨es, clock, e.trans hb, r⟩
theorem IntMap.below {w w' : World} {B b : Nat} {m : List (Int × Value)} (h : IntMap w b m) (hb : Below B w w') (hB : b < B) : IntMap w' b m := h.same (hb.block b hB)
theorem IntMap.alloc {w : World} {b : Nat} {m : List (Int × Value)} (h : IntMap w b m) (o : Obj) : IntMap (w.alloc o) b m := h.same (Below.heap_alloc w o b h.lt)
theorem IntMap.made (w : World) : IntMap (w.alloc (.map #[] 0)) w.heap.size [] := ⟨#[], 0, World.alloc_heap_new w _, rfl, by simp, by simp⟩
theorem IntMap.setCell {w : World} {b : Nat} {m : List (Int × Value)} (h : IntMap w b m) (a : Addr) (v : Value) : IntMap (w.setCell a v) b m := by
  obtain ⟨es, clock, hb, r⟩ := h
  refine ⟨es, clock, ?_, r⟩
  by_cases e : b = a.block
  · subst e
    simp [World.setCell, Array.getElem?_modify, hb]
  · exact (Below.heap_setCell w a v b e).trans hb

def mget (m : List (Int × Value)) (k : Int) : Option Value := (m.find? fun p => p.1 == k).map (·.2)
def mput (m : List (Int × Value)) (k : Int) (v : Value) : List (Int × Value) := match m.findIdx? (fun p => p.1 == k) with | some i => m.set i (k, v) | none => m ++ [(k, v)]
def mdel (m : List (Int × Value)) (k : Int) : List (Int × Value) := match m.findIdx? (fun p => p.1 == k) with | some i => m.eraseIdx i | none => m

theorem findNow_spec (k : Int) : ∀ (l : List MapEntry) (m : List (Int × Value)) (i : Nat), l.map (fun e => (e.key, e.val)) = m.map (fun p => (Value.int .i64 p.1, p.2)) →
    Instr.findNow (.int .i64) (.int .i64 k) l i = some ((m.findIdx? fun p => p.1 == k).map fun j => (i + j, (l.getD j default).val)) := by
  intro l
  induction l with
  | nil => intro m i h; cases m with
    | nil => rfl
    | cons p m => simp at h
  | cons e l ih =>
    intro m i h
    cases m with
    | nil => simp at h
    | cons p m =>
      simp only [List.map_cons, List.cons.injEq, Prod.mk.injEq] at h
      obtain ⟨⟨hk, hv⟩, ht⟩ := h
      rw [Instr.findNow, hk]
      simp only [Instr.sameNow, if_true]
      by_cases hpk : p.1 = k
      · have e1 : (k == p.1) = true := by simp [hpk]
        have e2 : (p.1 == k) = true := by simp [hpk]
        simp [e1, List.findIdx?_cons, e2]
      · have e1 : (k == p.1) = false := by simp; omega
        have e2 : (p.1 == k) = false := by simp [hpk]
        simp only [e1, ih m (i + 1) ht, List.findIdx?_cons, e2]
        cases m.findIdx? (fun p => p.1 == k) with
        | none => rfl
        | some j => simp [Nat.add_assoc, Nat.add_comm 1 j]

theorem mget_idx (m : List (Int × Value)) (k : Int) : mget m k = (m.findIdx? fun p => p.1 == k).map fun j => (m.getD j default).2 := by
  unfold mget
  induction m with
  | nil => rfl
  | cons p m ih =>
    by_cases hpk : (p.1 == k) = true
    · simp [List.find?_cons, List.findIdx?_cons, hpk]
    · have hpk' : (p.1 == k) = false := by simpa using hpk
      simp only [List.find?_cons, List.findIdx?_cons, hpk', ih]
      cases m.findIdx? (fun p => p.1 == k) <;> simp

theorem ents_val {l : List MapEntry} {m : List (Int × Value)} (h : l.map (fun e => (e.key, e.val)) = m.map (fun p => (Value.int .i64 p.1, p.2))) (j : Nat) (hj : j < m.length) :
    (l.getD j default).val = (m.getD j default).2 := by
  have hl : l.length = m.length := by have := congrArg List.length h; simpa using this
  have e := congrArg (fun z => z[j]?) h
  simp only [List.getElem?_map, List.getElem?_eq_getElem hj, List.getElem?_eq_getElem (show j < l.length by omega)] at e
  simp only [Option.map_some, Option.some.injEq, Prod.mk.injEq] at e
  simp [List.getD_eq_getElem?_getD, List.getElem?_eq_getElem hj, List.getElem?_eq_getElem (show j < l.length by omega), e.2]

theorem findIdx_lt {α : Type} {p : α → Bool} {l : List α} {j : Nat} (h : l.findIdx? p = some j) : j < l.length := by
  rw [List.findIdx?_eq_some_iff_getElem] at h
  exact h.1

/-- What the program finds. -/
theorem run_findKey (t : TypeId) (ht : P.underlying t = some (.int .i64)) (k : Int) {es : Array MapEntry} {m : List (Int × Value)} (h : Ents m es) (w : World) :
    (Instr.findKey t (.int .i64 k) es.toList).run P w = .ok ((m.findIdx? fun p => p.1 == k).map fun j => (j, (m.getD j default).2)) w := by
  unfold Instr.findKey
  simp only [Sem.run_bind, run_underlying ht, Result.andThen, findNow_spec k es.toList m 0 h, Nat.zero_add]
  cases hj : m.findIdx? (fun p => p.1 == k) with
  | none => rfl
  | some j =>
    have hv := ents_val h j (findIdx_lt hj)
    simp at hv
    simp [hv]

theorem run_checkKey (t : TypeId) (ht : P.underlying t = some (.int .i64)) (k : Int) (e : Bool) (w : World) : (Instr.checkKey e 10000 t (.int .i64 k)).run P w = .ok () w := by
  rw [show (10000 : Nat) = 9999 + 1 from rfl, Instr.checkKey]
  simp [Sem.run_bind, run_underlying ht, Result.andThen]

theorem run_getMap {w : World} {b : Nat} {es : Array MapEntry} {clock : Nat} (h : w.heap[b]? = some (.map es clock)) : (getObj b).run P w = .ok (.map es clock) w := by
  simp [getObj, Sem.run, h]

/-- 'v, ok := m[k]'. -/
theorem run_lookup {T kt et : TypeId} {z : Value} (hT : P.underlying T = some (.map kt et)) (hk : P.underlying kt = some (.int .i64)) {w : World} (hz : (zeroValue et).run P w = .ok z w) {b : Nat} {m : List (Int × Value)} (h : IntMap w b m) (k : Int) (c : Bool) :
    (Instr.lookup T (.map (some b)) (.int .i64 k) c).run P w = .ok (if c then .tuple #[(mget m k).getD z, .bool (mget m k).isSome] else (mget m k).getD z) w := by
  obtain ⟨es, clock, hb, he, _⟩ := h
  have hf := run_findKey (P := P) kt hk k he w
  rw [mget_idx]
  unfold Instr.lookup
  simp only [Sem.run_bind, run_underlying hT, Result.andThen, run_getMap hb, run_checkKey kt hk]
  cases hj : m.findIdx? (fun p => p.1 == k) with
  | none =>
    rw [hj] at hf
    cases c <;> simp [-bind_pure_comp, hf, hz, Result.andThen, Sem.run_bind]
  | some j =>
    rw [hj] at hf
    cases c <;> simp [-bind_pure_comp, hf, Result.andThen, Sem.run_bind]

theorem run_setObj {w : World} {b : Nat} {es : Array MapEntry} {clock : Nat} (h : w.heap[b]? = some (.map es clock)) (o : Obj) : (setObj b o).run P w = .ok () (w.putObj b o) := by
  simp [setObj, Sem.run, h, World.putObj]

theorem ents_set {m : List (Int × Value)} {es : Array MapEntry} (h : Ents m es) (j : Nat) (k : Int) (v : Value) (hk : ∀ p, m[j]? = some p → p.1 = k) :
    Ents (m.set j (k, v)) (es.modify j fun e => { e with key := .int .i64 k, val := v }) := by
  unfold Ents at *
  rw [Array.toList_modify]
  apply List.ext_getElem?
  intro i
  have e := congrArg (fun z => z[i]?) h
  simp only [List.getElem?_map, List.getElem?_modify, List.getElem?_set] at e ⊢
  have hl : es.toList.length = m.length := by have := congrArg List.length h; simpa using this
  by_cases hi : j = i
  · subst hi
    by_cases hj : j < m.length
    · simp [List.getElem?_eq_getElem (show j < es.toList.length by omega), hj]
    · simp [List.getElem?_eq_none (show es.toList.length ≤ j by omega), hj]
  · simpa [hi] using e

theorem ents_push {m : List (Int × Value)} {es : Array MapEntry} (h : Ents m es) (k : Int) (v : Value) (c : Nat) : Ents (m ++ [(k, v)]) (es.push { key := .int .i64 k, val := v, born := c }) := by
  unfold Ents at *
  simp [h]

theorem ents_key {m : List (Int × Value)} {es : Array MapEntry} (h : Ents m es) (j : Nat) (p : Int × Value) (hp : m[j]? = some p) : ((es[j]?).map (·.key)) = some (.int .i64 p.1) := by
  have e := congrArg (fun z => z[j]?) h
  simp only [List.getElem?_map, hp, Option.map_some] at e
  rw [Array.getElem?_toList] at e
  cases hj : es[j]? with
  | none => simp [hj] at e
  | some x => simp [hj] at e; simp [e.1]

/-- 'm[k] = v'. -/
theorem run_update {T kt et : TypeId} (hT : P.underlying T = some (.map kt et)) (hk : P.underlying kt = some (.int .i64)) {w : World} {b : Nat} {m : List (Int × Value)} (h : IntMap w b m) (k : Int) (v : Value) :
    ∃ o, (Instr.mapUpdate T (.map (some b)) (.int .i64 k) v).run P w = .ok () (w.putObj b o) ∧ IntMap (w.putObj b o) b (mput m k v) := by
  obtain ⟨es, clock, hb, he, h1, h2⟩ := h
  have hlt : b < w.heap.size := (Array.getElem?_eq_some_iff.1 hb).1
  have hf := run_findKey (P := P) kt hk k he w
  unfold Instr.mapUpdate
  simp only [Sem.run_bind, run_underlying hT, Result.andThen, run_getMap hb, run_checkKey kt hk]
  unfold mput
  cases hj : m.findIdx? (fun p => p.1 == k) with
  | none =>
    rw [hj] at hf
    refine ⟨.map (es.push { key := .int .i64 k, val := v, born := clock }) (clock + 1), ?_, _, _, World.putObj_heap_same hlt, ents_push he k v clock, ?_, ?_⟩
    · simp [-bind_pure_comp, hf, Result.andThen, Sem.run_bind, run_setObj hb]
    · intro e hm
      simp at hm
      rcases hm with hm | rfl
      · have := h1 e (by simpa using hm); omega
      · simp
    · simp only [Array.toList_push, List.map_append, List.map_cons, List.map_nil]
      rw [List.nodup_append]
      refine ⟨h2, by simp, ?_⟩
      intro x hx y hy e
      simp at hy
      subst hy
      subst e
      obtain ⟨z, hz, rfl⟩ := List.mem_map.1 hx
      have := h1 z hz
      omega
  | some j =>
    rw [hj] at hf
    have hjl := findIdx_lt hj
    rw [List.findIdx?_eq_some_iff_getElem] at hj
    obtain ⟨hj1, hj2, _⟩ := hj
    have hkey : (m[j]'hjl).1 = k := by simpa using hj2
    have hek := ents_key he j _ (List.getElem?_eq_getElem hjl)
    rw [hkey] at hek
    refine ⟨.map (es.modify j fun e => { e with key := .int .i64 k, val := v }) clock, ?_, _, _, World.putObj_heap_same hlt, ents_set he j k v (fun p hp => by rw [List.getElem?_eq_getElem hjl] at hp; cases hp; exact hkey), ?_, ?_⟩
    · simp [-bind_pure_comp, hf, Result.andThen, Sem.run_bind, hek, Instr.keyThatStays, Instr.sameBits, run_setObj hb]
    · intro e hm
      rw [Array.toList_modify] at hm
      obtain ⟨i, hi⟩ := List.mem_iff_getElem?.1 hm
      rw [List.getElem?_modify] at hi
      cases hx : es.toList[i]? with
      | none => simp [hx] at hi
      | some x =>
        have := h1 x (List.mem_of_getElem? hx)
        rw [hx] at hi
        split at hi <;> (simp at hi; subst hi; exact this)
    · have : (es.modify j fun e => { e with key := .int .i64 k, val := v }).toList.map (·.born) = es.toList.map (·.born) := by
        rw [Array.toList_modify]
        apply List.ext_getElem?
        intro i
        simp only [List.getElem?_map, List.getElem?_modify]
        cases es.toList[i]? with
        | none => rfl
        | some x => by_cases hji : j = i <;> simp [hji]
      rw [this]; exact h2

theorem mget_mput_same (m : List (Int × Value)) (k : Int) (v : Value) : mget (mput m k v) k = some v := by
  unfold mput
  cases hj : m.findIdx? (fun p => p.1 == k) with
  | none =>
    rw [List.findIdx?_eq_none_iff] at hj
    have : m.find? (fun p => p.1 == k) = none := by
      rw [List.find?_eq_none]; intro x hx; simp [hj x hx]
    simp [mget, List.find?_append, this]
  | some j =>
    rw [List.findIdx?_eq_some_iff_getElem] at hj
    obtain ⟨hj1, hj2, hj3⟩ := hj
    rw [mget_idx]
    have : (m.set j (k, v)).findIdx? (fun p => p.1 == k) = some j := by
      rw [List.findIdx?_eq_some_iff_getElem]
      refine ⟨by simpa using hj1, by simp, fun i hi => ?_⟩
      have := hj3 i hi
      rw [List.getElem_set_ne (by omega)]
      exact this
    simp [this, hj1]

theorem mget_mput_other (m : List (Int × Value)) (k k' : Int) (hne : k' ≠ k) (v : Value) : mget (mput m k v) k' = mget m k' := by
  unfold mput
  cases hj : m.findIdx? (fun p => p.1 == k) with
  | none => simp [mget, List.find?_append, show (k == k') = false from by simp; omega]
  | some j =>
    rw [List.findIdx?_eq_some_iff_getElem] at hj
    obtain ⟨hj1, hj2, hj3⟩ := hj
    simp only
    unfold mget
    clear hj3
    induction m generalizing j with
    | nil => simp at hj1
    | cons p m ih =>
      cases j with
      | zero =>
        have e1 : p.1 = k := by simpa using hj2
        simp [List.find?_cons, e1, show (k == k') = false from by simp; omega]
      | succ j =>
        simp only [List.set_cons_succ, List.find?_cons]
        cases hp : (p.1 == k') with
        | true => rfl
        | false => exact ih j (by simpa using hj1) (by simpa using hj2)
end Go.Proofs.Ytilfngegmdedpaa
