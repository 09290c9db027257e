/- shown is true: what is lacking of the spans 1 to 5, by who has 1 to 2, is 3 to 5. -/
import Derived.Test.YtilfngegmdedpaaDoorS
import Derived.Deep.Onto
set_option linter.unusedVariables false
set_option linter.unusedSimpArgs false
namespace Go.Proofs.YtilfngegmdedpaaDoor
open Go.RowKit Go.Shelf Go.Proofs

theorem one_of_owns {w : World} {base : Nat} {v : Value} {f t : Nat} (h : w.ownsRow base 36 2 v 1 [.int .u64 f, .int .u64 t]) : One w v f t := by
  obtain ⟨B, c, rfl⟩ := ownsRow_succ (k := 0) h
  exact ⟨B, c, rfl, by simpa using h.cellAt 0 (by omega), by simpa using h.cellAt 1 (by omega)⟩

set_option maxHeartbeats 1000000 in
theorem minus_shown (va vb : Value) (w : World) (ha : One w va 1 5) (hb : One w vb 1 2) :
    Calls Tryd.prog 14 #[va, vb] w fun e w' => ∃ v, e = .returned v ∧ w'.ownsRow w.heap.size 36 2 v 1 [.int .u64 3, .int .u64 5] ∧ Below w.heap.size w w' := by
  go_enter Tryd.func14, Tryd.ntmps14
  go_wp2_with fail
  refine (may_one va 1 5 w ha (by omega) (by omega)).mono ?_
  rintro e w1 ⟨rfl, hB1⟩
  go_wp2_with fail
  refine (may_one vb 1 2 w1 (hb.below (B := 0) hB1) (by omega) (by omega)).mono ?_
  rintro e w2 ⟨rfl, hB2⟩
  have hB : Below w.heap.size w w2 := hB1.trans (hB2.mono hB1.size)
  go_wp2_with fail
  refine (walk_shown va vb w2 (ha.below (B := 0) hB) (hb.below (B := 0) hB)).mono ?_
  rintro e w3 ⟨v, rfl, ho, hB3⟩
  go_wp2
  go_ret
  exact ⟨_, rfl, ho.mono hB.size, hB.trans (hB3.mono hB.size)⟩

set_option maxRecDepth 100000 in
set_option maxHeartbeats 1000000 in
theorem first_shown (va : Value) (w : World) (ha : One w va 3 5) :
    Calls Tryd.prog 13 #[va, .int .u64 9] w fun e w' => ∃ v, e = .returned v ∧ w'.ownsRow w.heap.size 36 2 v 1 [.int .u64 3, .int .u64 5] ∧ Below w.heap.size w w' := by
  obtain ⟨i0, hi, hz0, hz1, hz2⟩ := info_parts info36
  have hm := may_one va 3 5 w ha (by omega) (by omega)
  obtain ⟨b, c, rfl, hc0, hc1⟩ := ha
  have hb : b < w.heap.size := World.block_lt_of_cell? w _ hc0
  have HM := Lib.hid hm
  clear hm
  go_enter Tryd.func13, Tryd.ntmps13
  go_wp2_with fail
  refine HM.out.mono ?_
  rintro e w1 ⟨rfl, hB1⟩
  have hc0' := (hB1.cell (p := ⟨b, 0, none⟩) hb).trans hc0
  have hc1' := (hB1.cell (p := ⟨b, 1, none⟩) hb).trans hc1
  have hs1 := hB1.size
  have hb1 : b < w1.heap.size := by omega
  clear hc0 hc1
  go_wp2
  refine wp_loop_rounds 2 ?_
  rw [rounds_succ]
  go_wp2_with (at_builtin; refine wpList_append_own _ rfl _ _ 33 rfl w.heap.size 36 i0 (.agg #[.int .u64 0, .int .u64 0]) 2 16 Tryd.underlying33 hi hz0 hz1 hz2 rfl (by decide) _ _ _ rfl (World.ownsRow_nil _ _ _ _) ⟨w1.heap.size + 1, 0, none⟩ 1 1 [.int .u64 3, .int .u64 5] rfl rfl (new_cells' (by simp) _ _) (by simp [Value.oneCell']) (by decide) (by decide) (by simp; omega) ?_; intro v' w4 ho4 hg4 _; obtain ⟨B', c', rfl⟩ := ownsRow_succ ho4)
  rw [rounds_succ]
  go_wp2
  go_ret
  refine ⟨_, rfl, by simpa using ho4, Below.grown (row := none) ?_ hg4 ?_ (by simp)⟩
  · repeat (first | exact hB1 | refine Below.drew ?_ | refine Below.alloc ?_ (by first | omega | (simp; omega)) _)
  · simp; omega

set_option maxHeartbeats 1000000 in
theorem lack_shown (va vb : Value) (w : World) (ha : One w va 1 2) (hb : One w vb 1 5) :
    Calls Tryd.prog 8 #[va, vb, .int .u64 9] w fun e w' => ∃ v, e = .returned v ∧ w'.ownsRow w.heap.size 36 2 v 1 [.int .u64 3, .int .u64 5] ∧ Below w.heap.size w w' := by
  go_enter Tryd.func8, Tryd.ntmps8
  go_wp2_with fail
  refine (minus_shown vb va w hb ha).mono ?_
  rintro e w1 ⟨v, rfl, ho, hB1⟩
  go_wp2_with fail
  refine (first_shown v w1 (one_of_owns ho)).mono ?_
  rintro e w2 ⟨v2, rfl, ho2, hB2⟩
  go_wp2
  go_ret
  exact ⟨_, rfl, ho2.mono hB1.size, hB1.trans (hB2.mono hB1.size)⟩

set_option maxHeartbeats 1000000 in
theorem same_shown (va vb : Value) (w : World) (ha : One w va 3 5) (hb : One w vb 3 5) :
    Calls Tryd.prog 9 #[va, vb] w fun e w' => e = .returned (.bool true) ∧ Below w.heap.size w w' := by
  obtain ⟨b, c, rfl, hc0, hc1⟩ := ha
  obtain ⟨b2, c2, rfl, hd0, hd1⟩ := hb
  go_enter Tryd.func9, Tryd.ntmps9
  go_wp2
  refine wp_loop_rounds 2 ?_
  rw [rounds_succ]
  go_wp2
  go_region
  go_wp2
  rw [rounds_succ]
  go_wp2
  go_ret
  exact ⟨rfl, (Below.refl _ _).drew⟩

theorem one_lit (w : World) (f t : Nat) : One (w.alloc (.cells #[.int .u64 f, .int .u64 t] 36)) (.slice (some ⟨w.heap.size, 0, none⟩) 1 1) f t :=
  ⟨_, _, rfl, by rw [World.cell?_alloc_at _ _ _ _ rfl]; rfl, by rw [World.cell?_alloc_at _ _ _ _ rfl]; rfl⟩

set_option maxHeartbeats 1000000 in
theorem shown_any (w : World) : Calls Tryd.prog 4 #[] w fun e w' => e = .returned (.bool true) ∧ Below w.heap.size w w' := by
  have B0 : Below w.heap.size w (w.alloc (.cells #[.int .u64 1, .int .u64 2] 36)) := (Below.refl _ w).alloc (Nat.le_refl _) _
  have B1 : Below w.heap.size w ((w.alloc (.cells #[.int .u64 1, .int .u64 2] 36)).alloc (.cells #[.int .u64 1, .int .u64 5] 36)) := B0.alloc (by simp) _
  have h1 := (one_lit w 1 2).below (B := 0) ((Below.refl _ _).alloc (Nat.le_refl _) (.cells #[.int .u64 1, .int .u64 5] 36))
  have h2 := one_lit (w.alloc (.cells #[.int .u64 1, .int .u64 2] 36)) 1 5
  rw [World.size_alloc] at h2
  go_enter Tryd.func4, Tryd.ntmps4
  go_wp2_with fail
  refine (lack_shown _ _ _ h1 h2).mono ?_
  rintro e w1 ⟨v, rfl, ho, hB1⟩
  have B2 : Below w.heap.size w w1 := B1.trans (hB1.mono (by simp; omega))
  have h3 := (one_of_owns ho).below (B := 0) ((Below.refl _ _).alloc (Nat.le_refl _) (.cells #[.int .u64 3, .int .u64 5] 36))
  have h4 := one_lit w1 3 5
  go_wp2_with fail
  refine (same_shown _ _ _ h3 h4).mono ?_
  rintro e w2 ⟨rfl, hB3⟩
  go_wp2
  go_ret
  exact ⟨rfl, (B2.alloc B2.size _).trans (hB3.mono (by have := B2.size; simp; omega))⟩
end Go.Proofs.YtilfngegmdedpaaDoor
