/- Doubts: Raise of the program, whole; the document's doubts: its object, All, Drop. -/
import Derived.Test.YtilfngegmdedpaaDq
set_option linter.unusedVariables false
set_option linter.unusedSimpArgs false
namespace Go.Proofs.Ytilfngegmdedpaa
open Go.RowKit Go.Shelf Go.Proofs
attribute [local go_sem] Oper.semAt_some

/-- What a Raise comes to. -/
def rres (l : List Dbt) (node s n : Int) (inc now base : Nat) (nodes : Int) : Option Dbt × Bool × Int :=
  if okRaise node s n = true then rstep (lget l node) node.toNat inc n.toNat now base nodes else (none, false, 1)
theorem okRaise_parts {node s n : Int} (h : okRaise node s n = true) : s = 1 ∧ 0 ≤ node ∧ node < 64 ∧ 0 ≤ n ∧ n < 64 := by
  simp only [okRaise, mayB, Bool.and_eq_true, decide_eq_true_eq] at h
  omega
theorem fr_dm {w w' : World} {Dd : Nat} {r : Option Nat} (h : Below w.heap.size w w') : Fr (fun k => k = Dd ∨ some k = r) w w' := Fr.of_below h (fun i h1 h2 => absurd h1 (by omega))

theorem raise_any (w : World) (Dd : Nat) (r : Option Nat) (l : List Dbt) (h : DM w Dd r l) (node s n : Int) (inc now : Nat) (nodes : Int) (base : Nat) (hbase : base < 18446744073709551616) (hnodes : nodes ≤ 9223372036854775807) (hnow : now < 2 ^ 64) (hinc : inc < 2 ^ 64) :
    Calls Try.prog 6 #[.pointer (some ⟨Dd, 0, none⟩), .agg #[.int .i64 node, .int .u64 inc, .int .i64 s], .int .i64 n, .int .u64 now, .int .i64 nodes, .float .f64 base] w fun e w' =>
      e = .returned (.tuple #[.bool (rres l node s n inc now base nodes).2.1, .int .i64 (rres l node s n inc now base nodes).2.2]) ∧ ∃ r', DM w' Dd r' (lstep l (rres l node s n inc now base nodes).1) ∧ (r' = r ∨ ∃ b, r' = some b ∧ w.heap.size ≤ b) ∧ Fr (fun k => k = Dd ∨ some k = r) w w' := by
  by_cases hok : okRaise node s n = true
  · have hr : rres l node s n inc now base nodes = rstep (lget l node) node.toNat inc n.toNat now base nodes := if_pos hok
    obtain ⟨rfl, h1, h2, h3, h4⟩ := okRaise_parts hok
    obtain ⟨node, rfl⟩ := Int.eq_ofNat_of_zero_le h1
    obtain ⟨n, rfl⟩ := Int.eq_ofNat_of_zero_le h3
    rw [Int.toNat_natCast, Int.toNat_natCast] at hr
    rw [hr]
    cases hx : lget l (node : Int) with
    | none =>
      rw [show rstep none node inc n now base nodes = (some (fresh node inc n now base nodes), true, 0) from rfl]
      rcases h.map with ⟨rfl, rfl⟩ | ⟨mb, rfl, hm⟩
      · refine (raise_freshN w Dd h node inc n now nodes base hbase hnodes hnow hinc hok).mono ?_
        rintro e w' ⟨rfl, b, hb, hD, hF⟩
        exact ⟨rfl, some b, hD, .inr ⟨b, rfl, hb⟩, hF.mono (fun i _ hi => .inl hi)⟩
      · refine (raise_freshS w Dd mb l h node inc n now nodes base hbase hnodes hnow hinc hok 0 0 0 0 0 0 0 false (by simp) fun wx hd => ?_).mono ?_
        · have := lookD hd node
          rw [hx] at this
          exact this
        · rintro e w' ⟨rfl, hD, hF⟩
          exact ⟨rfl, some mb, hD, .inl rfl, hF.mono (fun i _ hi => .inr hi)⟩
    | some x =>
      have hox := h.ok x (lget_mem hx)
      by_cases hlt : inc < x.inc
      · rw [show rstep (some x) node inc n now base nodes = (none, false, 70) from if_pos hlt]
        refine (raise_old w Dd r l h node inc n now nodes base hok x hx hlt).mono ?_
        rintro e w' ⟨rfl, hb⟩
        exact ⟨rfl, r, h.below hb (Nat.le_refl _), .inl rfl, fr_dm hb⟩
      · by_cases heq : x.inc = inc
        · cases hbit : x.who.testBit n with
          | true =>
            rw [show rstep (some x) node inc n now base nodes = (none, false, 0) from (if_neg hlt).trans ((if_pos heq).trans (if_pos hbit))]
            refine (raise_told w Dd r l h node inc n now nodes base hok x hx heq hbit hox.2.2.1).mono ?_
            rintro e w' ⟨rfl, hb⟩
            exact ⟨rfl, r, h.below hb (Nat.le_refl _), .inl rfl, fr_dm hb⟩
          | false =>
            rw [show rstep (some x) node inc n now base nodes = (some (more x n base nodes), true, 0) from (if_neg hlt).trans ((if_pos heq).trans (if_neg (by simp [hbit])))]
            refine (raise_more w Dd r l h node inc n now nodes base hbase hnodes hok x hx heq hox.2.2.2.1 hbit hox.2.2.1).mono ?_
            rintro e w' ⟨rfl, hD, hF⟩
            exact ⟨rfl, r, hD, .inl rfl, hF.mono (fun i _ hi => .inr hi)⟩
        · rw [show rstep (some x) node inc n now base nodes = (some (fresh node inc n now base nodes), true, 0) from (if_neg hlt).trans (if_neg heq)]
          rcases h.map with ⟨rfl, rfl⟩ | ⟨mb, rfl, hm⟩
          · cases hx
          · refine (raise_freshS w Dd mb l h node inc n now nodes base hbase hnodes hnow hinc hok x.node 1 x.inc x.who x.since x.told x.til true (fun _ => by omega) fun wx hd => ?_).mono ?_
            · have := lookD hd node
              rw [hx] at this
              exact this
            · rintro e w' ⟨rfl, hD, hF⟩
              exact ⟨rfl, some mb, hD, .inl rfl, hF.mono (fun i _ hi => .inr hi)⟩
  · have hr : rres l node s n inc now base nodes = (none, false, 1) := if_neg hok
    rw [hr]
    refine (raise_bad w Dd node inc s n now nodes base (by simpa using hok)).mono ?_
    rintro e w' ⟨rfl, hb⟩
    exact ⟨rfl, r, h.below hb (Nat.le_refl _), .inl rfl, fr_dm hb⟩
theorem until_raise {l : List Dbt} {node s n : Int} {inc now base : Nat} {nodes : Int} {d : Dbt} (h : (rres l node s n inc now base nodes).1 = some d) : (d.node : Int) = node := by
  unfold rres at h
  split at h
  · rename_i hok
    obtain ⟨_, h1, _⟩ := okRaise_parts hok
    unfold rstep at h
    split at h
    · rename_i x hx
      have hn := lget_node hx
      split at h
      · cases h
      · split at h
        · split at h
          · cases h
          · cases h; exact hn
        · cases h; show ((node.toNat : Nat) : Int) = node; omega
    · cases h; show ((node.toNat : Nat) : Int) = node; omega
  · cases h

/-- The document's doubts in block Rr, their row v. -/
structure RM (w : World) (Rr : Nat) (v : Value) (l : List Dbt) : Prop where
  box : BoxC w Rr 31 #[v]
  row : w.ownsRow 0 62 7 v l.length (flatD l)
  uniq : Uniq l
  ok : ∀ d ∈ l, OkD d
def SRM (Rr : Nat) (v : Value) (k : Nat) : Prop := k = Rr ∨ v.ownBlock = some k
theorem RM.lt {w : World} {Rr : Nat} {v : Value} {l : List Dbt} (h : RM w Rr v l) : ∀ k, SRM Rr v k → k < w.heap.size := by
  rintro k (rfl | hk)
  · exact h.box.lt
  · exact (rowBlock h.row hk).2
theorem RM.fr {w w' : World} {Rr : Nat} {v : Value} {l : List Dbt} (h : RM w Rr v l) {S : Nat → Prop} (hf : Fr S w w') (hS : ∀ k, SRM Rr v k → ¬ S k) : RM w' Rr v l :=
  ⟨hf.boxC h.box (hS _ (.inl rfl)), rowFr h.row hf (fun j hj => hS j (.inr hj)), h.uniq, h.ok⟩
theorem RM.below {w w' : World} {Rr : Nat} {v : Value} {l : List Dbt} (h : RM w Rr v l) {n : Nat} (hb : Below n w w') (hn : w.heap.size ≤ n) : RM w' Rr v l :=
  h.fr (S := fun k => n ≤ k) (Fr.of_below hb fun _ _ hk => hk) fun k hk hc => by have := h.lt k hk; omega
theorem RM.apart {w : World} {Rr : Nat} {v : Value} {l : List Dbt} (h : RM w Rr v l) : v.ownBlock ≠ some Rr := by
  intro e
  rcases h.row.2 with ⟨rfl, _⟩ | ⟨g, cap, cur, rfl, hb, hg, _⟩
  · simp [Value.ownBlock] at e
  · simp [Value.ownBlock] at e
    subst e
    have := (show w.heap[g]? = _ from h.box).symm.trans hg
    simp at this
theorem RM.len {w : World} {Rr : Nat} {v : Value} {l : List Dbt} (h : RM w Rr v l) : l.length ≤ 64 := by
  have hn : (l.map (·.node)).Nodup := h.uniq
  have hs : ∀ x ∈ l.map (·.node), x ∈ List.range 64 := by
    intro x hx
    obtain ⟨d, hd, rfl⟩ := List.mem_map.1 hx
    exact List.mem_range.2 (h.ok d hd).1
  have h2 : (l.map (·.node)).length ≤ (List.range 64).length := hn.length_le_of_subset hs
  simpa using h2
theorem infoR : (Try.prog.info? 62).map (fun i => (i.zero, i.size, i.bytes)) = some (some (.agg #[.int .i64 0, .int .u64 0, .int .i64 0, .int .u64 0, .int .u64 0, .int .u64 0, .int .u64 0]), 7, 56) := by kernel_rfl
end Go.Proofs.Ytilfngegmdedpaa
