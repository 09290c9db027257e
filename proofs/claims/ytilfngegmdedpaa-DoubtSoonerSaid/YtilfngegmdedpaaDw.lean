/- Doubts: rows that are the same; rows of the other kind; that a doubt is over. -/
import Derived.Test.YtilfngegmdedpaaDu
import Derived.Laws.StructEq
import Derived.Deep.QuietTactic
import Derived.BigQuiet
set_option linter.unusedVariables false
set_option linter.unusedSimpArgs false
namespace Go.Proofs.Ytilfngegmdedpaa
open Go.RowKit Go.Shelf Go.Proofs
attribute [local go_sem] Oper.semAt_some

theorem neqR (w : World) (a b c d e f g : Int) : (binOp .neq 62 (.agg #[.int .i64 a, .int .u64 b, .int .i64 c, .int .u64 d, .int .u64 e, .int .u64 f, .int .u64 g]) (.agg #[.int .i64 a, .int .u64 b, .int .i64 c, .int .u64 d, .int .u64 e, .int .u64 f, .int .u64 g])).run Try.prog w = .ok (.bool false) w := by
  go_simp
theorem neqU (w : World) (a b c : Int) : (binOp .neq 34 (.agg #[.int .i64 a, .int .u64 b, .int .i64 c]) (.agg #[.int .i64 a, .int .u64 b, .int .i64 c])).run Try.prog w = .ok (.bool false) w := by
  go_simp

set_option maxRecDepth 100000 in
set_option maxHeartbeats 8000000 in
theorem same10_any (w : World) (b1 b2 : Nat) (A1 A2 : Option Addr) (c1 c2 : Nat) (L : List Dbt) (h1 : w.ownsRow b1 62 7 (.slice A1 L.length c1) L.length (flatD L)) (h2 : w.ownsRow b2 62 7 (.slice A2 L.length c2) L.length (flatD L)) (hl : L.length ≤ 64) :
    Calls Try.prog 13 #[.slice A1 L.length c1, .slice A2 L.length c2] w fun e w' => e = .returned (.bool true) ∧ ∃ m, w' = w.drewN m := by
  go_enter Try.func13, Try.ntmps13
  go_wp2
  go_loopw [5] (fun i wr => ∃ k : Nat, k ≤ L.length ∧ i = .int .i64 k ∧ ∃ m, wr = w.drewN m) (fun i _ => L.length - (intOf i).toNat)
  case atStart => exact ⟨0, Nat.zero_le _, rfl, 0, rfl⟩
  case round =>
    obtain ⟨k, hk, rfl, m, rfl⟩ := hrel
    by_cases hkl : k < L.length
    · obtain ⟨d, hd⟩ : ∃ d, L[k]? = some d := ⟨L[k], List.getElem?_eq_getElem hkl⟩
      obtain ⟨a1, rfl, hc1⟩ := rowAt h1 (by omega)
      obtain ⟨a2, rfl, hc2⟩ := rowAt h2 (by omega)
      obtain ⟨x0, x1, x2, x3, x4, x5, x6⟩ := recAt hc1 hd
      obtain ⟨y0, y1, y2, y3, y4, y5, y6⟩ := recAt hc2 hd
      have hklt : (k : Int) < (L.length : Int) := by omega
      have hkl0 : (0 : Int) ≤ (k : Int) := by omega
      have hq := fun w => neqR w d.node d.inc 1 d.who d.since d.told d.til
      clear hc1 hc2 hd
      go_wp2_with fail
      go_quiet (fail)
      go_wp2
      exact ⟨⟨k + 1, by omega, by go_num, _, rfl⟩, by simp [intOf]; omega⟩
    · obtain rfl : k = L.length := by omega
      go_wp2
      go_ret
      exact ⟨rfl, m, rfl⟩
theorem flatU_at (ds : List Dbt) (k : Nat) (d : Dbt) (hk : ds[k]? = some d) (i : Nat) (u : Value) (hi : i < 3) (hu : (cellsU d)[i]? = some u) : (flatU ds)[k * 3 + i]? = some u := by
  induction ds generalizing k with
  | nil => simp at hk
  | cons x ds ih =>
    have e : flatU (x :: ds) = cellsU x ++ flatU ds := rfl
    have hl : (cellsU x).length = 3 := rfl
    rw [e]
    cases k with
    | zero =>
      simp at hk
      subst hk
      rw [List.getElem?_append_left (by omega)]
      simpa using hu
    | succ k =>
      rw [List.getElem?_append_right (by omega), hl, show (k + 1) * 3 + i - 3 = k * 3 + i from by omega]
      exact ih k (by simpa using hk)
theorem recU {w : World} {a k : Nat} {ds : List Dbt} {d : Dbt} (hcell : ∀ i u, (flatU ds)[i]? = some u → w.cell? ⟨a, i, none⟩ = some u) (hd : ds[k]? = some d) :
    w.cell? ⟨a, k * 3, none⟩ = some (.int .i64 d.node) ∧ w.cell? ⟨a, k * 3 + 1, none⟩ = some (.int .u64 d.inc) ∧ w.cell? ⟨a, k * 3 + 2, none⟩ = some (.int .i64 3) :=
  ⟨hcell _ _ (flatU_at ds k d hd 0 _ (by omega) rfl), hcell _ _ (flatU_at ds k d hd 1 _ (by omega) rfl), hcell _ _ (flatU_at ds k d hd 2 _ (by omega) rfl)⟩

set_option maxRecDepth 100000 in
set_option maxHeartbeats 8000000 in
theorem same7_any (w : World) (b1 b2 : Nat) (A1 A2 : Option Addr) (c1 c2 : Nat) (L : List Dbt) (h1 : w.ownsRow b1 34 3 (.slice A1 L.length c1) L.length (flatU L)) (h2 : w.ownsRow b2 34 3 (.slice A2 L.length c2) L.length (flatU L)) (hl : L.length ≤ 64) :
    Calls Try.prog 10 #[.slice A1 L.length c1, .slice A2 L.length c2] w fun e w' => e = .returned (.bool true) ∧ ∃ m, w' = w.drewN m := by
  go_enter Try.func10, Try.ntmps10
  go_wp2
  go_loopw [5] (fun i wr => ∃ k : Nat, k ≤ L.length ∧ i = .int .i64 k ∧ ∃ m, wr = w.drewN m) (fun i _ => L.length - (intOf i).toNat)
  case atStart => exact ⟨0, Nat.zero_le _, rfl, 0, rfl⟩
  case round =>
    obtain ⟨k, hk, rfl, m, rfl⟩ := hrel
    by_cases hkl : k < L.length
    · obtain ⟨d, hd⟩ : ∃ d, L[k]? = some d := ⟨L[k], List.getElem?_eq_getElem hkl⟩
      obtain ⟨a1, rfl, hc1⟩ := rowAt h1 (by omega)
      obtain ⟨a2, rfl, hc2⟩ := rowAt h2 (by omega)
      obtain ⟨x0, x1, x2⟩ := recU hc1 hd
      obtain ⟨y0, y1, y2⟩ := recU hc2 hd
      have hklt : (k : Int) < (L.length : Int) := by omega
      have hkl0 : (0 : Int) ≤ (k : Int) := by omega
      have hq := fun w => neqU w d.node d.inc 3
      clear hc1 hc2 hd
      go_wp2_with fail
      go_quiet (fail)
      go_wp2
      exact ⟨⟨k + 1, by omega, by go_num, _, rfl⟩, by simp [intOf]; omega⟩
    · obtain rfl : k = L.length := by omega
      go_wp2
      go_ret
      exact ⟨rfl, m, rfl⟩

set_option maxRecDepth 100000 in
set_option maxHeartbeats 8000000 in
theorem theirs_any (w : World) (b1 : Nat) (A1 : Option Addr) (c1 : Nat) (L : List Dbt) (h1 : w.ownsRow b1 55 7 (.slice A1 L.length c1) L.length (flatD L)) (hl : L.length ≤ 64) :
    Calls Try.prog 14 #[.slice A1 L.length c1] w fun e w' => ∃ v', e = .returned v' ∧ w'.ownsRow w.heap.size 62 7 v' L.length (flatD L) ∧ Below w.heap.size w w' := by
  obtain ⟨j0, hj, hy0, hy1, hy2⟩ := info_parts infoR
  go_enter Try.func14, Try.ntmps14
  go_wp2
  go_loopw [3, 4] (fun v2 i wr => ∃ k : Nat, k ≤ L.length ∧ i = .int .i64 k ∧ wr.ownsRow w.heap.size 62 7 v2 k (flatD (L.take k)) ∧ Below w.heap.size w wr) (fun _ i _ => L.length - (intOf i).toNat)
  case atStart => exact ⟨0, Nat.zero_le _, rfl, ⟨rfl, .inr ⟨_, 0, #[], rfl, Nat.le_refl _, World.alloc_heap_new _ _, Nat.le_refl _, by simp [maxLen], rfl, rfl⟩⟩, (Below.refl _ _).alloc (Nat.le_refl _) _⟩
  case round =>
    obtain ⟨k, hk, rfl, hrow, hB⟩ := hrel
    have h1' := rowKeep h1 hB
    by_cases hkl : k < L.length
    · obtain ⟨d, hd⟩ : ∃ d, L[k]? = some d := ⟨L[k], List.getElem?_eq_getElem hkl⟩
      obtain ⟨a, rfl, hcells⟩ := rowAt h1' (by omega)
      obtain ⟨c0, c1', c2, c3, c4, c5, c6⟩ := recAt hcells hd
      have hklt : (k : Int) < (L.length : Int) := by omega
      have hsz := hB.size
      have HT := Lib.hid (show L.take (k + 1) = L.take k ++ [d] by rw [List.take_add_one, hd]; rfl)
      obtain ⟨A2, cc2, rfl⟩ := rowForm hrow
      have hgb : ∀ j, (Value.slice A2 k cc2).ownBlock = some j → w.heap.size ≤ j ∧ j < wr.heap.size := fun j hj => rowBlock hrow hj
      clear hd hcells
      go_wp2_with (at_builtin; refine wpList_append_own _ rfl _ _ 29 rfl w.heap.size 62 j0 (.agg #[.int .i64 0, .int .u64 0, .int .i64 0, .int .u64 0, .int .u64 0, .int .u64 0, .int .u64 0]) 7 56 Try.underlying29 hj hy0 hy1 hy2 rfl (by decide) _ _ _ rfl (hrow.alloc _) ⟨wr.heap.size, 0, none⟩ 1 1 (cellsD d).toList rfl rfl (newCells rfl _ _) (by simp [Value.oneCell', cellsD]) (by simp only [maxLen]; omega) (by omega) (by simp; omega) ?_; intro v' w3 hown' hgrow _)
      have hB3 : Below w.heap.size w w3 := hB.trans ((((Below.refl _ wr).alloc hsz (.cells (cellsD d).toList.toArray 62)).grown hgrow (by simp; omega) (fun j hj => (hgb j hj).1)))
      go_roundw
      case rel => exact ⟨k + 1, by omega, by go_num, by rw [HT.out, flatD_app]; simpa [flatD] using hown', hB3⟩
      case measure => simp [intOf]; omega
    · obtain rfl : k = L.length := by omega
      rw [List.take_length] at hrow
      go_wp2
      go_ret
      exact ⟨_, rfl, hrow, hB⟩

/-- Doubts that are none. -/
theorem dm_new (w : World) : DM (w.alloc (.cells #[.map none] 27)) w.heap.size none [] := ⟨BoxC.new w _ _, .inl ⟨rfl, rfl⟩, List.nodup_nil, by simp⟩
theorem rm_new (w : World) : RM (w.alloc (.cells #[.slice none 0 0] 31)) w.heap.size (.slice none 0 0) [] := ⟨BoxC.new w _ _, World.ownsRow_nil _ _ _ _, List.nodup_nil, by simp⟩

theorem end_shown : endB 4611686018427387904 1 5 0 = 7 := by decide +kernel
theorem rres_shown : rres [] 3 1 1 0 5 4611686018427387904 1 = (some ⟨3, 0, 2, 5, 0, 7⟩, true, 0) := by
  have h : rres [] 3 1 1 0 5 4611686018427387904 1 = (some (fresh 3 0 1 5 4611686018427387904 1), true, 0) := rfl
  rw [h]
  unfold fresh
  rw [end_shown]
theorem over_shown : overs (lall [⟨3, 0, 2, 5, 0, 7⟩]) 7 = [⟨3, 0, 2, 5, 0, 7⟩] := by decide +kernel
theorem raise_shown (w : World) : Calls Try.prog 6 #[.pointer (some ⟨w.heap.size, 0, none⟩), .agg #[.int .i64 3, .int .u64 0, .int .i64 1], .int .i64 1, .int .u64 5, .int .i64 1, .float .f64 4611686018427387904] (w.alloc (.cells #[.map none] 27)) fun e w' =>
    e = .returned (.tuple #[.bool true, .int .i64 0]) ∧ ∃ r', DM w' w.heap.size r' [⟨3, 0, 2, 5, 0, 7⟩] ∧ Below w.heap.size w w' ∧ ∀ k, r' = some k → w.heap.size ≤ k := by
  refine (raise_any _ _ _ _ (dm_new w) 3 1 1 0 5 1 4611686018427387904 (by omega) (by omega) (by decide) (by decide)).mono ?_
  rw [rres_shown]
  rintro e w' ⟨rfl, r', hD, hr, hF⟩
  refine ⟨rfl, r', hD, ?_, ?_⟩
  · have h1 : Below w.heap.size w (w.alloc (.cells #[.map none] 27)) := (Below.refl _ w).alloc (Nat.le_refl _) _
    exact h1.trans (hF.below (by simp) (fun i hi hc => by rcases hc with hc | hc <;> first | omega | simp at hc))
  · intro k hk
    rcases hr with hr | ⟨b, hb, hb2⟩
    · rw [hr] at hk; cases hk
    · rw [hb] at hk; cases hk; simp at hb2; omega

set_option maxRecDepth 100000 in
set_option maxHeartbeats 8000000 in
theorem shown_any (w : World) : Calls Try.prog 5 #[] w fun e w' => e = .returned (.bool true) ∧ Below w.heap.size w w' := by
  go_enter Try.func5, Try.ntmps5
  go_wp2_with (first | (go_at_call 6; refine (raise_shown w).mono ?_; rintro e w1 ⟨rfl, r', hD, hB1, hr'⟩; have hov := over_any w1 _ _ _ hD 7; rw [over_shown] at hov; clear hD) | (go_at_call 11; refine hov.mono ?_; rintro e w2 ⟨v, rfl, hrow, hD2, hF2⟩; obtain ⟨A, c, rfl⟩ := rowForm hrow; obtain ⟨a, rfl, hcells⟩ := rowAt hrow (by decide); have u0 := hcells 0 _ rfl; have u2 := hcells 2 _ rfl; clear hD2 hov hcells))
  go_ret
  exact ⟨rfl, hB1.trans (hF2.below hB1.size (fun i hi hc => by have := hr' i hc.symm; omega))⟩
end Go.Proofs.Ytilfngegmdedpaa
