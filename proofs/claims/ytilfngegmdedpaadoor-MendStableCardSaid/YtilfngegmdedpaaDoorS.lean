/- shown: the one small case that must go well: the spans that are lacking. -/
import Derived.Test.YtilfngegmdedpaaDoorQ
import Derived.Deep.DeepMust
set_option linter.unusedVariables false
set_option linter.unusedSimpArgs false
namespace Go.Proofs.YtilfngegmdedpaaDoor
open Go.RowKit Go.Shelf Go.Proofs

/-- A slice of one span. -/
def One (w : World) (v : Value) (f t : Nat) : Prop := ∃ b c, v = .slice (some ⟨b, 0, none⟩) 1 c ∧ w.cell? ⟨b, 0, none⟩ = some (.int .u64 f) ∧ w.cell? ⟨b, 1, none⟩ = some (.int .u64 t)
theorem One.below {w w' : World} {v : Value} {f t B : Nat} (h : One w v f t) (hb : Below w.heap.size w w') : One w' v f t := by
  obtain ⟨b, c, rfl, h0, h1⟩ := h
  exact ⟨b, c, rfl, (hb.cell (World.block_lt_of_cell? w _ h0)).trans h0, (hb.cell (World.block_lt_of_cell? w _ h1)).trans h1⟩

set_option maxHeartbeats 1000000 in
theorem may_one (v : Value) (f t : Nat) (w : World) (h : One w v f t) (h1 : f ≤ t) (h2 : t < 1000) :
    Calls Tryd.prog 17 #[v] w fun e w' => e = .returned (.bool true) ∧ Below w.heap.size w w' := by
  obtain ⟨b, c, rfl, hc0, hc1⟩ := h
  have hb : b < w.heap.size := World.block_lt_of_cell? w _ hc0
  have hlt0 : decide ((f : Int) < 0) = false := by simp
  have hlt1 : decide (t < f) = false := by simp; omega
  have hne : ((t : Int) == 18446744073709551615) = false := by simp; omega
  go_enter Tryd.func17, Tryd.ntmps17
  go_wp2
  refine wp_loop_rounds 2 ?_
  rw [rounds_succ]
  go_wp2
  rw [rounds_succ]
  go_wp2
  go_ret
  exact ⟨rfl, (Below.refl _ _).alloc (Nat.le_refl _) _⟩

set_option maxHeartbeats 1000000 in
theorem stableCmp_any (B c : Nat) (l : List Edge) (base : Nat) (hn : l.length < 20) (hn0 : 0 < l.length) (w : World) (h : w.ownsRow base 52 3 (.slice (some ⟨B, 0, none⟩) l.length c) l.length (flat l)) :
    Calls Tryd.prog 25 #[.slice (some ⟨B, 0, none⟩) l.length c, .int .i64 l.length, .func (.func 24) #[] #[]] w fun e w' => e = .returned (.tuple #[]) ∧
      w'.ownsRow base 52 3 (.slice (some ⟨B, 0, none⟩) l.length c) l.length (flat (insTo l.length l)) ∧ w.grownBy w' (some B) := by
  have hle : decide ((20 : Int) ≤ (l.length : Int)) = false := by simp only [decide_eq_false_iff_not]; omega
  have hle2 : decide ((20 : Int) < (l.length : Int)) = false := by simp only [decide_eq_false_iff_not]; omega
  go_enter Tryd.func25, Tryd.ntmps25
  go_wp2
  refine wp_loop_rounds 1 ?_
  rw [rounds_succ]
  go_wp2_with (go_at_call 26; refine (ins_any B c l base (by omega) hn0 _ h).mono ?_; rintro e w' ⟨rfl, hown, hg⟩)
  refine wp_loop_rounds 1 ?_
  rw [rounds_succ]
  go_wp2
  go_end0
  exact ⟨rfl, hown, hg⟩

set_option maxHeartbeats 1000000 in
theorem sortStable_any (B c : Nat) (l : List Edge) (base : Nat) (hn : l.length < 20) (hn0 : 0 < l.length) (w : World) (h : w.ownsRow base 52 3 (.slice (some ⟨B, 0, none⟩) l.length c) l.length (flat l)) :
    Calls Tryd.prog 23 #[.slice (some ⟨B, 0, none⟩) l.length c, .func (.func 24) #[] #[]] w fun e w' => e = .returned (.tuple #[]) ∧
      w'.ownsRow base 52 3 (.slice (some ⟨B, 0, none⟩) l.length c) l.length (flat (insTo l.length l)) ∧ w.grownBy w' (some B) := by
  go_enter Tryd.func23, Tryd.ntmps23
  go_wp2_with (go_at_call 25; refine (stableCmp_any B c l base hn hn0 _ h).mono ?_; rintro e w' ⟨rfl, hown, hg⟩)
  go_end0
  exact ⟨rfl, hown, hg⟩

theorem info52 : (Tryd.prog.info? 52).map (fun i => (i.zero, i.size, i.bytes)) = some (some (.agg #[.int .u64 0, .bool false, .bool false]), 3, 16) := by kernel_rfl
theorem info36 : (Tryd.prog.info? 36).map (fun i => (i.zero, i.size, i.bytes)) = some (some (.agg #[.int .u64 0, .int .u64 0]), 2, 16) := by kernel_rfl

theorem new_cells (W : World) (cs : List Value) (e : TypeId) : ∀ (j : Nat) (u : Value), cs[j]? = some u → (W.alloc (.cells cs.toArray e)).cell? ((⟨W.heap.size, 0, none⟩ : Addr).add j) = some u := by
  intro j u h
  have ea : (⟨W.heap.size, 0, none⟩ : Addr).add j = ⟨W.heap.size, j, none⟩ := by unfold Addr.add; split <;> simp_all
  rw [ea, World.cell?_alloc_at _ _ _ _ rfl]
  simpa using h

theorem box_after {w w1 : World} {L : Nat} {t : TypeId} {v : Value} {o1 o2 : Obj} {r : Option Nat} (h : Boxed w L t v) (hr : some L ≠ r) (hg : ((w.alloc o1).alloc o2).grownBy w1 r) : Boxed w1 L t v := ((h.alloc o1).alloc o2).kept hg hr

set_option maxRecDepth 100000 in
set_option maxHeartbeats 1000000 in
theorem edges_one (v sv : Value) (f t : Nat) (a : Bool) (L base : Nat) (l : List Edge) (w : World) (hs : One w sv f t) (ht : t < 1000) (hbx : Boxed w L 50 v) (hown : w.ownsRow base 52 3 v l.length (flat l))
    (hl : l.length < 1000) (hLb : L < base) (hbase : base ≤ w.heap.size) :
    Calls Tryd.prog 22 #[sv, .bool a, .pointer (some ⟨L, 0, none⟩)] w fun e w' => e = .returned (.tuple #[]) ∧ ∃ v', Boxed w' L 50 v' ∧
      w'.ownsRow base 52 3 v' (l.length + 2) (flat (l ++ [Edge.mk f a true, Edge.mk (t + 1) a false])) ∧ Below L w w' := by
  obtain ⟨i0, hi, hz0, hz1, hz2⟩ := info_parts info52
  obtain ⟨b, c, rfl, hc0, hc1⟩ := hs
  have hb : b < w.heap.size := World.block_lt_of_cell? w _ hc0
  have hL := hbx.lt
  have hbx2 := hbx.cell
  have hfx2 := hbx.frozen
  obtain ⟨A, c', rfl⟩ := owns_form hown
  have hnews := new_cells (w.alloc (.cells #[.int .u64 f, .int .u64 t] 36)) [.int .u64 f, .bool a, .bool true, .int .u64 ((t : Int) + 1), .bool a, .bool false] 52
  rw [World.size_alloc] at hnews
  have HN := Lib.hid hnews
  have HR := Lib.hid (hbx.not_row (by decide) hown)
  clear hnews
  go_enter Tryd.func22, Tryd.ntmps22
  go_wp2
  refine wp_loop_rounds 2 ?_
  rw [rounds_succ]
  go_wp2_with (at_builtin; go_must (refine wpList_append_own _ rfl _ _ 50 rfl base 52 i0 (.agg #[.int .u64 0, .bool false, .bool false]) 3 16 Tryd.underlying50 hi hz0 hz1 hz2 rfl (by decide) _ _ _ rfl ((hown.alloc _).alloc _) ⟨w.heap.size + 1, 0, none⟩ 2 2 [.int .u64 f, .bool a, .bool true, .int .u64 (t + 1), .bool a, .bool false] rfl rfl HN.out (by simp [Value.oneCell']) (by simp only [maxLen]; omega) (by omega) (by simp; omega) ?_); intro v' w1 hown' hgrow _; go_must (obtain ⟨g', cap', rfl⟩ := ownsRow_succ hown'); have hb1 := box_after hbx HR.out hgrow; have hc1' := hb1.cell; have hf1' := hb1.frozen)
  rw [rounds_succ]
  go_wp2
  go_end0
  refine ⟨rfl, _, hb1.set _, ?_, ?_⟩
  · have e : flat (l ++ [Edge.mk f a true, Edge.mk (t + 1) a false]) = flat l ++ [.int .u64 f, .bool a, .bool true, .int .u64 ((t : Int) + 1), .bool a, .bool false] := by simp [flat, Edge.cells]
    rw [e]
    exact hown'.kept (grownBy_setCell' w1 L _) (.inr (hb1.not_row (by decide) hown').symm)
  · exact ((((Below.refl L w).alloc (by omega) _).alloc (by simp; omega) _).grown hgrow (by simp; omega) (fun k hk => by have := hown.lt k hk; omega)).setCell (p := ⟨L, 0, none⟩) (Nat.le_refl _) _

def eL : List Edge := [⟨1, true, true⟩, ⟨6, true, false⟩, ⟨1, false, true⟩, ⟨3, false, false⟩]
theorem sorted_eL : flat (insTo 4 eL) = [.int .u64 1, .bool true, .bool true, .int .u64 1, .bool false, .bool true, .int .u64 3, .bool false, .bool false, .int .u64 6, .bool true, .bool false] := by rfl

theorem new_cells' {W : World} {N : Nat} (h : N = W.heap.size) (cs : List Value) (e : TypeId) : ∀ (j : Nat) (u : Value), cs[j]? = some u → (W.alloc (.cells cs.toArray e)).cell? ((⟨N, 0, none⟩ : Addr).add j) = some u := by
  subst h
  exact new_cells W cs e

set_option maxHeartbeats 400000 in
theorem keep_any (a b : Bool) (w : World) : Calls Tryd.prog 19 #[.bool a, .bool b] w fun e w' => e = .returned (.bool (a && !b)) ∧ w = w' := by
  cases a <;> cases b <;> (go_enter Tryd.func19, Tryd.ntmps19; go_wp2; go_ret; exact ⟨rfl, rfl⟩)

set_option maxRecDepth 100000 in
set_option maxHeartbeats 2000000 in
theorem walk_shown (va vb : Value) (w : World) (ha : One w va 1 5) (hb : One w vb 1 2) :
    Calls Tryd.prog 18 #[va, vb, .func (.func 19) #[] #[]] w fun e w' => ∃ v, e = .returned v ∧ w'.ownsRow w.heap.size 36 2 v 1 [.int .u64 3, .int .u64 5] ∧ Below w.heap.size w w' := by
  obtain ⟨i0, hi, hz0, hz1, hz2⟩ := info_parts info36
  have bL := Boxed.new w 50 (.slice none 0 0)
  have B1 : Below w.heap.size w (w.alloc (.cells #[.slice none 0 0] 50)) := (Below.refl _ w).alloc (Nat.le_refl _) _
  have ha1 := ha.below (B := 0) B1
  go_enter Tryd.func18, Tryd.ntmps18
  go_wp2
  go_step3
  go_wp2_with fail
  refine (edges_one _ va 1 5 true w.heap.size (w.heap.size + 1) [] _ ha1 (by omega) bL (World.ownsRow_nil _ _ _ _) (by simp) (by omega) (by simp)).mono ?_
  rintro e w1 ⟨rfl, v1, hb1, ho1, hB1⟩
  have hb1' : Below w.heap.size w w1 := B1.trans hB1
  have hbv1 := hb.below (B := 0) hb1'
  go_wp2_with fail
  refine (edges_one _ vb 1 2 false w.heap.size (w.heap.size + 1) _ _ hbv1 (by omega) hb1 ho1 (by simp) (by omega) (by have := hB1.size; simpa using this)).mono ?_
  rintro e w2 ⟨rfl, v2, hb2, ho2, hB2⟩
  obtain ⟨B, c, rfl⟩ := ownsRow_succ ho2
  have ho2' : w2.ownsRow (w.heap.size + 1) 52 3 (.slice (some ⟨B, 0, none⟩) 4 c) eL.length (flat eL) := ho2
  have hb2' : Boxed w2 w.heap.size 50 (.slice (some ⟨B, 0, none⟩) 4 c) := hb2
  have hBB := (ho2'.lt B rfl).1
  have hBw2 : Below w.heap.size w w2 := hb1'.trans hB2
  have hc2 := hb2'.cell
  clear ho2 hb2 hb1 ho1 hB1 hB2 ha1 bL B1 hb1' hbv1
  go_wp2_with fail
  refine (sortStable_any B c eL (w.heap.size + 1) (by decide) (by decide) _ ho2').mono ?_
  rintro e w3 ⟨rfl, ho3, hg3⟩
  have hb3 : Boxed w3 w.heap.size 50 (.slice (some ⟨B, 0, none⟩) 4 c) := hb2'.kept hg3 (by simp; omega)
  have hBw3 : Below w.heap.size w w3 := hBw2.grown hg3 hBw2.size (fun k e => by cases e; omega)
  have hBl := (ho3.lt B rfl).2
  have hLl := hb3.lt
  change w3.ownsRow (w.heap.size + 1) 52 3 (.slice (some ⟨B, 0, none⟩) 4 c) 4 (flat (insTo 4 eL)) at ho3
  rw [sorted_eL] at ho3
  have hcs := fun j hj => ho3.cellAt j hj
  have d0 := hcs 0 (by omega)
  have d1 := hcs 1 (by omega)
  have d2 := hcs 2 (by omega)
  have d3 := hcs 3 (by omega)
  have d4 := hcs 4 (by omega)
  have d5 := hcs 5 (by omega)
  have d6 := hcs 6 (by omega)
  have d7 := hcs 7 (by omega)
  have d8 := hcs 8 (by omega)
  have d9 := hcs 9 (by omega)
  have d10 := hcs 10 (by omega)
  have d11 := hcs 11 (by omega)
  simp at d0 d1 d2 d3 d4 d5 d6 d7 d8 d9 d10 d11
  have hc3 := hb3.cell
  have hL1 : w.heap.size < w3.heap.size + 1 := by omega
  have hB1 : B < w3.heap.size + 1 := by omega
  have hL2 : w.heap.size < w3.heap.size + 2 := by omega
  have hB2 : B < w3.heap.size + 2 := by omega
  have hL3 : w.heap.size < w3.heap.size + 3 := by omega
  have hB3 : B < w3.heap.size + 3 := by omega
  have hL4 : w.heap.size < w3.heap.size + 4 := by omega
  have hB4 : B < w3.heap.size + 4 := by omega
  have hL5 : w.heap.size < w3.heap.size + 5 := by omega
  have hB5 : B < w3.heap.size + 5 := by omega
  have hL6 : w.heap.size < w3.heap.size + 6 := by omega
  have hB6 : B < w3.heap.size + 6 := by omega
  clear hcs ho2' hb2' hBw2 hc2 hg3 w2
  go_wp2_with fail
  go_step3
  go_wp2_with fail
  refine wp_loop_rounds 5 ?_
  rw [rounds_succ]
  go_wp2_with fail
  go_region
  go_wp2_with fail
  rw [rounds_succ]
  go_wp2_with fail
  go_region
  go_wp2_with (go_at_call 19; refine (keep_any _ _ _).mono ?_; rintro e w' ⟨rfl, rfl⟩)
  rw [rounds_succ]
  go_wp2_with fail
  go_region
  go_wp2_with (go_at_call 19; refine (keep_any _ _ _).mono ?_; rintro e w' ⟨rfl, rfl⟩)
  rw [rounds_succ]
  go_wp2_with fail
  go_region
  go_wp2_with (first | (go_at_call 19; refine (keep_any _ _ _).mono ?_; rintro e w' ⟨rfl, rfl⟩) | (at_builtin; refine wpList_append_own _ rfl _ _ 33 rfl w.heap.size 36 i0 (.agg #[.int .u64 0, .int .u64 0]) 2 16 Tryd.underlying33 hi hz0 hz1 hz2 rfl (by decide) _ _ _ rfl (World.ownsRow_nil _ _ _ _) ⟨w3.heap.size + 5, 0, none⟩ 1 1 [.int .u64 3, .int .u64 5] rfl rfl (new_cells' (by simp) _ _) (by simp [Value.oneCell']) (by decide) (by decide) (by simp; omega) ?_; intro v' w4 ho4 hg4 _; obtain ⟨B', c', rfl⟩ := ownsRow_succ ho4))
  rw [rounds_succ]
  go_wp2
  rw [Exit.noGoto_ret]
  go_ret
  refine ⟨_, rfl, by simpa using ho4, Below.grown (row := none) ?_ hg4 ?_ (by simp)⟩
  · repeat (first | exact hBw3 | refine Below.drew ?_ | refine Below.alloc ?_ (by first | omega | (simp; omega)) _)
  · simp; omega
end Go.Proofs.YtilfngegmdedpaaDoor
