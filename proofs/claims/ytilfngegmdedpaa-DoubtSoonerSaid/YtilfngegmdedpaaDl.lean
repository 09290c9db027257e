/- Doubts as lists: plain laws. -/
import Derived.Test.YtilfngegmdedpaaDb
import Derived.Test.YtilfngegmdedpaaI
set_option linter.unusedVariables false
set_option linter.unusedSimpArgs false
namespace Go.Proofs.Ytilfngegmdedpaa

/-- The doubt of a node. -/
def lget (l : List Dbt) (n : Int) : Option Dbt := l.find? fun d => (d.node : Int) == n
def lput (l : List Dbt) (d : Dbt) : List Dbt := match l.findIdx? (fun x => (x.node : Int) == (d.node : Int)) with | some i => l.set i d | none => l ++ [d]
def ldel (l : List Dbt) (n : Int) : List Dbt := match l.findIdx? (fun x => (x.node : Int) == n) with | some i => l.eraseIdx i | none => l
def lnot (l : List Dbt) (n : Int) : List Dbt := l.filter fun d => (d.node : Int) != n
/-- One doubt for a node. -/
def Uniq (l : List Dbt) : Prop := (l.map (·.node)).Nodup

theorem lget_node {l : List Dbt} {n : Int} {d : Dbt} (h : lget l n = some d) : (d.node : Int) = n := by
  have := List.find?_some h
  simpa using this
theorem lget_mem {l : List Dbt} {n : Int} {d : Dbt} (h : lget l n = some d) : d ∈ l := List.mem_of_find?_eq_some h
theorem lget_none {l : List Dbt} {n : Int} : lget l n = none ↔ ∀ d ∈ l, (d.node : Int) ≠ n := by
  unfold lget
  rw [List.find?_eq_none]
  simp
theorem lget_of_mem {l : List Dbt} (hu : Uniq l) {d : Dbt} (h : d ∈ l) : lget l d.node = some d := by
  induction l with
  | nil => simp at h
  | cons x l ih =>
    unfold lget
    rw [List.find?_cons]
    have hn : x.node ∉ l.map (·.node) ∧ (l.map (·.node)).Nodup := List.nodup_cons.1 hu
    rcases List.mem_cons.1 h with rfl | h
    · simp
    · have hne : x.node ≠ d.node := fun e => hn.1 (by rw [e]; exact List.mem_map.2 ⟨d, h, rfl⟩)
      have : ((x.node : Int) == (d.node : Int)) = false := by simp; omega
      rw [this]
      exact ih hn.2 h
theorem idx_none {l : List Dbt} {n : Int} : l.findIdx? (fun x => (x.node : Int) == n) = none ↔ lget l n = none := by
  rw [List.findIdx?_eq_none_iff, lget_none]
  simp
theorem lget_app (l : List Dbt) (d : Dbt) (n : Int) (h : lget l d.node = none) : lget (l ++ [d]) n = if n = d.node then some d else lget l n := by
  unfold lget at *
  rw [List.find?_append]
  by_cases e : n = (d.node : Int)
  · subst e
    rw [h, if_pos rfl]
    simp
  · rw [if_neg e]
    have : ((d.node : Int) == n) = false := by simp; omega
    simp [List.find?_cons, this]
theorem lget_set (l : List Dbt) (i : Nat) (x d : Dbt) (n : Int) (hx : l[i]? = some x) (hn : x.node = d.node) (hu : Uniq l) : lget (l.set i d) n = if n = d.node then some d else lget l n := by
  induction l generalizing i with
  | nil => simp at hx
  | cons y l ih =>
    have hc : y.node ∉ l.map (·.node) ∧ (l.map (·.node)).Nodup := List.nodup_cons.1 hu
    cases i with
    | zero =>
      simp at hx
      subst hx
      unfold lget
      rw [List.set_cons_zero, List.find?_cons, List.find?_cons]
      by_cases e : n = (d.node : Int)
      · subst e; simp
      · have h1 : ((d.node : Int) == n) = false := by simp; omega
        have h2 : ((y.node : Int) == n) = false := by simp; omega
        rw [if_neg e, h1, h2]
    | succ i =>
      simp at hx
      have hm : x ∈ l := List.mem_of_getElem? hx
      have hne : y.node ≠ d.node := fun e => hc.1 (by rw [e, ← hn]; exact List.mem_map.2 ⟨x, hm, rfl⟩)
      have := ih i hx hc.2
      unfold lget at this ⊢
      rw [List.set_cons_succ, List.find?_cons, List.find?_cons, this]
      by_cases e : n = (d.node : Int)
      · subst e
        have h2 : ((y.node : Int) == (d.node : Int)) = false := by simp; omega
        rw [h2]
      · rw [if_neg e, if_neg e]
theorem uniq_set (l : List Dbt) (i : Nat) (x d : Dbt) (hx : l[i]? = some x) (hn : x.node = d.node) (hu : Uniq l) : Uniq (l.set i d) := by
  have : (l.set i d).map (·.node) = l.map (·.node) := by
    apply List.ext_getElem?
    intro j
    simp only [List.getElem?_map, List.getElem?_set]
    by_cases e : i = j
    · subst e
      have hl : i < l.length := (List.getElem?_eq_some_iff.1 hx).1
      rw [if_pos rfl, if_pos hl, hx]
      simp [hn]
    · rw [if_neg e]
  unfold Uniq
  rw [this]; exact hu
theorem uniq_app (l : List Dbt) (d : Dbt) (h : lget l d.node = none) (hu : Uniq l) : Uniq (l ++ [d]) := by
  unfold Uniq
  rw [List.map_append, List.nodup_append]
  refine ⟨hu, by simp, ?_⟩
  intro a ha b hb e
  simp at hb
  obtain ⟨x, hx, rfl⟩ := List.mem_map.1 ha
  have := lget_none.1 h x hx
  omega
theorem idx_some {l : List Dbt} {n : Int} {i : Nat} (h : l.findIdx? (fun x => (x.node : Int) == n) = some i) : ∃ x, l[i]? = some x ∧ (x.node : Int) = n := by
  rw [List.findIdx?_eq_some_iff_getElem] at h
  obtain ⟨h1, h2, _⟩ := h
  exact ⟨l[i], List.getElem?_eq_getElem h1, by simpa using h2⟩
theorem lget_lput (l : List Dbt) (d : Dbt) (n : Int) (hu : Uniq l) : lget (lput l d) n = if n = d.node then some d else lget l n := by
  unfold lput
  cases h : l.findIdx? (fun x => (x.node : Int) == (d.node : Int)) with
  | none => exact lget_app l d n (idx_none.1 h)
  | some i =>
    obtain ⟨x, hx, hn⟩ := idx_some h
    exact lget_set l i x d n hx (by omega) hu
theorem uniq_lput (l : List Dbt) (d : Dbt) (hu : Uniq l) : Uniq (lput l d) := by
  unfold lput
  cases h : l.findIdx? (fun x => (x.node : Int) == (d.node : Int)) with
  | none => exact uniq_app l d (idx_none.1 h) hu
  | some i =>
    obtain ⟨x, hx, hn⟩ := idx_some h
    exact uniq_set l i x d hx (by omega) hu
theorem lget_lnot (l : List Dbt) (n k : Int) : lget (lnot l n) k = if k = n then none else lget l k := by
  induction l with
  | nil => simp [lnot, lget]
  | cons x l ih =>
    unfold lnot lget at *
    by_cases hx : (x.node : Int) = n
    · have h1 : ((x.node : Int) != n) = false := by simp [hx]
      rw [List.filter_cons, h1]
      simp only [Bool.false_eq_true, if_false]
      rw [ih]
      by_cases e : k = n
      · rw [if_pos e, if_pos e]
      · rw [if_neg e, if_neg e, List.find?_cons]
        have h2 : ((x.node : Int) == k) = false := by simp; omega
        rw [h2]
    · have h1 : ((x.node : Int) != n) = true := by simp [hx]
      rw [List.filter_cons, h1]
      simp only [if_true]
      rw [List.find?_cons, List.find?_cons, ih]
      by_cases e : k = n
      · subst e
        have h2 : ((x.node : Int) == k) = false := by simp [hx]
        rw [h2]
      · rw [if_neg e, if_neg e]
theorem uniq_lnot (l : List Dbt) (n : Int) (hu : Uniq l) : Uniq (lnot l n) := by
  unfold Uniq lnot
  exact List.Nodup.sublist (List.Sublist.map _ List.filter_sublist) hu
theorem ldel_lnot (l : List Dbt) (n : Int) (hu : Uniq l) : ldel l n = lnot l n := by
  induction l with
  | nil => rfl
  | cons x l ih =>
    have hc : x.node ∉ l.map (·.node) ∧ (l.map (·.node)).Nodup := List.nodup_cons.1 hu
    unfold ldel lnot at *
    rw [List.findIdx?_cons, List.filter_cons]
    by_cases hx : (x.node : Int) = n
    · have h1 : ((x.node : Int) == n) = true := by simp [hx]
      have h2 : ((x.node : Int) != n) = false := by simp [hx]
      rw [h1, h2]
      simp only [if_true, Bool.false_eq_true, if_false, List.eraseIdx_cons_zero]
      symm
      rw [List.filter_eq_self]
      intro y hy
      have : y.node ≠ x.node := fun e => hc.1 (by rw [← e]; exact List.mem_map.2 ⟨y, hy, rfl⟩)
      simp; omega
    · have h1 : ((x.node : Int) == n) = false := by simp [hx]
      have h2 : ((x.node : Int) != n) = true := by simp [hx]
      rw [h1, h2]
      have := ih hc.2
      simp only [Bool.false_eq_true, if_false, if_true]
      cases h : l.findIdx? (fun x => (x.node : Int) == n) with
      | none => rw [h] at this; simp at this ⊢; exact this
      | some i => rw [h] at this; simp at this ⊢; exact this

/-- All doubts, their nodes rising. -/
def lall (l : List Dbt) : List Dbt := (List.range 64).filterMap fun n : Nat => lget l (n : Int)
theorem lall_congr (a b : List Dbt) (h : ∀ n, lget a n = lget b n) : lall a = lall b := by unfold lall; simp only [h]

def ent (d : Dbt) : Int × Value := ((d.node : Int), .agg (cellsD d))
theorem find_map (l : List Dbt) (n : Int) : (l.map ent).findIdx? (fun p => p.1 == n) = l.findIdx? fun d => (d.node : Int) == n := by
  rw [List.findIdx?_map]
  rfl
theorem mget_ent (l : List Dbt) (n : Int) : mget (l.map ent) n = (lget l n).map fun d => .agg (cellsD d) := by
  unfold mget lget
  rw [List.find?_map]
  show ((l.find? _).map ent).map _ = _
  rw [Option.map_map]
  rfl
theorem mput_ent (l : List Dbt) (d : Dbt) : mput (l.map ent) d.node (.agg (cellsD d)) = (lput l d).map ent := by
  unfold mput lput
  rw [find_map]
  cases l.findIdx? (fun x => (x.node : Int) == (d.node : Int)) with
  | none => simp [ent]
  | some i => simp [ent, List.map_set]
theorem erase_map {α β : Type} (f : α → β) : ∀ (l : List α) (i : Nat), (l.map f).eraseIdx i = (l.eraseIdx i).map f
  | [], i => by simp
  | x :: l, 0 => by simp
  | x :: l, i + 1 => by simp [erase_map f l i]
theorem mdel_ent (l : List Dbt) (n : Int) : mdel (l.map ent) n = (ldel l n).map ent := by
  unfold mdel ldel
  rw [find_map]
  cases l.findIdx? (fun x => (x.node : Int) == n) with
  | none => rfl
  | some i => exact erase_map ent l i
end Go.Proofs.Ytilfngegmdedpaa
