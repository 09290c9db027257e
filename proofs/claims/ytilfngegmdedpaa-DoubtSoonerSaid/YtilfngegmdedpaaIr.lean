/- Maps with int keys: a deletion, len, the nil map, a range. -/
import Derived.Test.YtilfngegmdedpaaI
import Derived.Maps.RangeRun
set_option linter.unusedVariables false
set_option linter.unusedSimpArgs false
namespace Go.Proofs.Ytilfngegmdedpaa
open Go.RowKit
variable {P : Program}

theorem ents_erase {m : List (Int × Value)} {es : Array MapEntry} (h : Ents m es) (j : Nat) : Ents (m.eraseIdx j) (es.eraseIdxIfInBounds j) := by
  unfold Ents at *
  have e1 : (es.eraseIdxIfInBounds j).toList = es.toList.eraseIdx j := by simp
  have key : ∀ {α β : Type} (f : α → β) (l : List α) (i : Nat), (l.map f).eraseIdx i = (l.eraseIdx i).map f := by
    intro α β f l
    induction l with
    | nil => intro i; simp
    | cons x l ih => intro i; cases i with
      | zero => simp
      | succ i => simp [ih]
  rw [e1, ← key, h, key]

theorem IntMap.same_obj {w : World} {b : Nat} {es : Array MapEntry} {clock : Nat} (h : w.heap[b]? = some (.map es clock)) : (w.putObj b (.map es clock)).heap[b]? = some (.map es clock) := World.putObj_heap_same (Array.getElem?_eq_some_iff.1 h).1

/-- 'delete(m, k)'. -/
theorem run_delete {T kt et : TypeId} (hT : P.underlying T = some (.map kt et)) (hk : P.underlying kt = some (.int .i64)) {w : World} {b : Nat} {m : List (Int × Value)} (h : IntMap w b m) (k : Int) (ty : TypeId) :
    ∃ o, (Builtin.delete_ #[T, kt] ty #[.map (some b), .int .i64 k]).run P w = .ok (.tuple #[]) (w.putObj b o) ∧ IntMap (w.putObj b o) b (mdel m k) := by
  obtain ⟨es, clock, hb, he, h1, h2⟩ := h
  have hlt : b < w.heap.size := (Array.getElem?_eq_some_iff.1 hb).1
  have hf := run_findKey (P := P) kt hk k he w
  unfold mdel
  cases hj : m.findIdx? (fun p => p.1 == k) with
  | none =>
    rw [hj] at hf
    refine ⟨.map es clock, ?_, es, clock, World.putObj_heap_same hlt, he, h1, h2⟩
    simp [-bind_pure_comp, Builtin.delete_, run_underlying hT, run_getMap hb, run_checkKey kt hk, hf, Result.andThen, Sem.run_bind, run_setObj hb]
  | some j =>
    rw [hj] at hf
    refine ⟨.map (es.eraseIdxIfInBounds j) clock, ?_, es.eraseIdxIfInBounds j, clock, World.putObj_heap_same hlt, ents_erase he j, ?_, ?_⟩
    · simp [-bind_pure_comp, Builtin.delete_, run_underlying hT, run_getMap hb, run_checkKey kt hk, hf, Result.andThen, Sem.run_bind, run_setObj hb]
    · intro e hm
      have : (es.eraseIdxIfInBounds j).toList = es.toList.eraseIdx j := by simp
      rw [this] at hm
      exact h1 e (List.mem_of_mem_eraseIdx hm)
    · have : (es.eraseIdxIfInBounds j).toList = es.toList.eraseIdx j := by simp
      rw [this]
      exact List.Nodup.sublist (List.Sublist.map _ (List.eraseIdx_sublist _ _)) h2
theorem run_delete_nil {T kt et : TypeId} (hT : P.underlying T = some (.map kt et)) (hk : P.underlying kt = some (.int .i64)) (w : World) (k : Int) (ty : TypeId) :
    (Builtin.delete_ #[T, kt] ty #[.map none, .int .i64 k]).run P w = .ok (.tuple #[]) w := by
  simp [-bind_pure_comp, Builtin.delete_, run_underlying hT, run_checkKey kt hk, Result.andThen, Sem.run_bind]
theorem run_lookup_nil {T kt et : TypeId} {z : Value} (hT : P.underlying T = some (.map kt et)) (hk : P.underlying kt = some (.int .i64)) {w : World} (hz : (zeroValue et).run P w = .ok z w) (k : Int) (c : Bool) :
    (Instr.lookup T (.map none) (.int .i64 k) c).run P w = .ok (if c then .tuple #[z, .bool false] else z) w := by
  have hf := run_findKey (P := P) kt hk k (es := #[]) (m := []) rfl w
  simp at hf
  cases c <;> simp [-bind_pure_comp, Instr.lookup, run_underlying hT, run_checkKey kt hk, hf, hz, Result.andThen, Sem.run_bind]
theorem run_len_map {T kt et : TypeId} (hT : P.underlying T = some (.map kt et)) {w : World} {b : Nat} {m : List (Int × Value)} (h : IntMap w b m) (ty : TypeId) :
    (Builtin.len_ #[T] ty #[.map (some b)]).run P w = .ok (.int .i64 m.length) w := by
  obtain ⟨es, clock, hb, he, h1, h2⟩ := h
  have hl : es.size = m.length := by have := congrArg List.length he; simpa using this
  simp [-bind_pure_comp, Builtin.len_, run_underlying hT, run_getMap hb, Result.andThen, Sem.run_bind, goInt, hl]
end Go.Proofs.Ytilfngegmdedpaa
