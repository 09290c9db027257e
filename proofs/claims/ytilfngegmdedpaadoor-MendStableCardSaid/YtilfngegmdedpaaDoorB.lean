/- The program's nodes of a band, and their list. -/
import Derived.Test.YtilfngegmdedpaaDoorA
set_option linter.unusedVariables false
set_option linter.unusedSimpArgs false
namespace Go.Proofs.YtilfngegmdedpaaDoor
open Go.RowKit Go.Shelf Go.Proofs
attribute [local go_sem] Oper.semAt_some

/-- The number in a box. -/
def boxN (W : World) (Bn : Nat) : Nat := match W.cell? ⟨Bn, 0, none⟩ with | some (.int _ q) => q.toNat | _ => 0
theorem boxN_eq {W : World} {Bn : Nat} {x : Nat} (h : Boxed W Bn 22 (.int .u64 x)) : boxN W Bn = x := by simp [boxN, h.cell]

def NKp (Bn : Nat) (W W' : World) : Prop := (∀ v, Boxed W Bn 22 v → Boxed W' Bn 22 v) ∧ (Tab W → Tab W')
def NSt (Bn : Nat) (A B : World) : Prop := ∃ u v, Boxed A Bn 22 u ∧ B = A.setCell ⟨Bn, 0, none⟩ v

theorem Tab.setCell {w : World} (h : Tab w) {B : Nat} (hB : 0 < B) (v : Value) : Tab (w.setCell ⟨B, 0, none⟩ v) := fun j hj =>
  (World.cell?_setCell_other _ _ _ _ (by intro e; cases e; omega)).trans (h j hj)

theorem and_low (x : Nat) (h0 : x ≠ 0) (h : x < 2 ^ 64) : bits BinOp.and IntKind.u64 (x : Int) ((x : Int) - 1) = ((x &&& (x - 1) : Nat) : Int) := by
  rw [show (x : Int) - 1 = ((x - 1 : Nat) : Int) from by omega]
  exact bits_and_u64_nat _ _ (by simpa using h) (by have : x < 18446744073709551616 := by simpa using h
                                                    omega)

set_option maxRecDepth 100000 in
set_option maxHeartbeats 1000000 in
theorem nodes1_in (n : Nat) (hn : 1 ≤ n) (l Bn : Nat) (hBn : 0 < Bn) (b : Nat) (hb : b < 2 ^ 64) (J : List Nat → World → Prop) (hJS : ∀ s A B, J s A → NSt Bn A B → J s B)
    (hY : ∀ pre x W, J pre W → pre.length < 64 → YieldAt Fence.wide (n - 1) Tryd.prog l #[enc x] W fun e W' => e = .returned (.bool true) ∧ J (pre ++ [x]) W' ∧ NKp Bn W W')
    (W : World) (hbox : Boxed W Bn 22 (.int .u64 b)) (hT : Tab W) (h0 : J [] W) :
    CallsIn Fence.wide n Tryd.prog 20 #[.func (.yield l) #[] #[], .pointer (some ⟨Bn, 0, none⟩)] W fun e W' => (∃ v, e = .returned v) ∧ ∃ xs, xs = bandL b ∧ J xs W' := by
  refine callsIn_of_wp Tryd.func20 rfl trivial ?_ rfl
  simp only [Tryd.ntmps20, List.size_toArray, List.length_cons, List.length_nil, Nat.reduceAdd, Nat.reduceSub, Array.replicate_succ, Array.replicate_zero, List.push_toArray, List.append_toArray, List.nil_append, List.cons_append]
  gi_wp2
  gi_loopw [3] (fun _ wr => ∃ (pre : List Nat) (x : Nat), bandL b = pre ++ bandL x ∧ x < 2 ^ 64 ∧ Boxed wr Bn 22 (.int .u64 x) ∧ Tab wr ∧ J pre wr) (fun _ wr => boxN wr Bn)
  case atStart => exact ⟨[], b, rfl, hb, hbox, hT, h0⟩
  case round =>
    obtain ⟨pre, x, hx, hxl, hbx, hTr, hJr⟩ := hrel
    have hc := hbx.cell
    by_cases hx0 : x = 0
    · subst hx0
      gi_wp2
      go_end0
      exact ⟨⟨_, rfl⟩, pre, by rw [hx, bandL_zero]; simp, hJr⟩
    · obtain ⟨hs, hk, hlt⟩ := bandL_step x hx0 hxl
      have hne : ((x : Int) == 0) = false := by simp; omega
      have hlen : pre.length < 64 := by
        have := bandL_length b
        rw [hx, hs] at this
        simp at this
        omega
      obtain ⟨fn, tmps, assign, body, hy, hR⟩ := hY pre (Lib.ctz 64 x) wr hJr hlen
      have HX := Lib.hid hx
      have HS := Lib.hid hs
      clear hx hs
      gi_wp2_with (refine ⟨trivial, ?_⟩; gi_at_call 21; refine (callsIn_wide.2 (tz_any x hxl hx0 _ hTr)).mono ?_; rintro e w' ⟨rfl, rfl⟩)
      refine hR.mono ?_
      rintro e W3 ⟨rfl, hJ3, hkB, hkT⟩
      have hb3 := hkB _ hbx
      have hc3 := hb3.cell
      have hf3 := hb3.frozen
      gi_wp2
      rw [and_low x hx0 hxl]
      have hbn := hb3.set (.int .u64 ((x &&& (x - 1) : Nat) : Int))
      exact ⟨⟨pre ++ [Lib.ctz 64 x], x &&& (x - 1), by rw [HX.out, HS.out]; simp, by omega, hbn, (hkT hTr).setCell hBn _, hJS _ _ _ hJ3 ⟨_, _, hb3, rfl⟩⟩, by rw [boxN_eq hbn, boxN_eq hbx]; exact hlt⟩

/-- The iterator of a band's nodes. -/
theorem nodes_runs (n : Nat) (hn : 1 ≤ n) (Bn : Nat) (hBn : 0 < Bn) (b : Nat) (hb : b < 2 ^ 64) (w : World) (hbox : Boxed w Bn 22 (.int .u64 b)) (hT : Tab w) :
    SeqRuns Fence.wide n Tryd.prog 20 #[.pointer (some ⟨Bn, 0, none⟩)] (fun x : Nat => #[enc x]) (NKp Bn) (NSt Bn) (fun xs => xs = bandL b) 64 w := fun l J W hW _ hJS hY h0 =>
  nodes1_in n hn l Bn hBn b hb J hJS hY W ((hW.block Bn hbox.lt).trans hbox) (hT.below hW) h0

set_option maxHeartbeats 400000 in
theorem nodes_any (b : Int) (w : World) :
    Calls Tryd.prog 15 #[.int .u64 b] w fun e w' => e = .returned (.func (.func 20) #[] #[.pointer (some ⟨w.heap.size, 0, none⟩)]) ∧ w' = w.alloc (.cells #[.int .u64 b] 22) := by
  go_enter Tryd.func15, Tryd.ntmps15
  go_wp2
  go_ret
  exact ⟨rfl, rfl⟩

set_option maxRecDepth 100000 in
set_option maxHeartbeats 2000000 in
theorem bandList_in (b : Nat) (hb : b < 2 ^ 64) (w : World) (hT : Tab w) :
    CallsIn Fence.wide 9 Tryd.prog 11 #[.int .u64 b] w fun e w' => ∃ v, e = .returned v ∧ w'.ownsRow w.heap.size 3 1 v (bandL b).length ((bandL b).map enc) ∧ Below w.heap.size w w' := by
  obtain ⟨i0, hi, hz0, hz1, hz2⟩ := info_parts info3
  have hpos := hT.pos
  refine callsIn_of_wp_marks Tryd.func11 rfl trivial ?_ rfl
  simp only [Tryd.ntmps11, List.size_toArray, List.length_cons, List.length_nil, Nat.reduceAdd, Nat.reduceSub, Array.replicate_succ, Array.replicate_zero, List.push_toArray, List.append_toArray, List.nil_append, List.cons_append]
  gi_wp2_with (refine ⟨trivial, ?_⟩; gi_at_call 15; refine (callsIn_wide.2 (nodes_any _ _)).mono ?_; rintro e w' ⟨rfl, rfl⟩)
  have bO := Boxed.new w 29 (.slice none 0 0)
  have bN := Boxed.new (w.alloc (.cells #[.slice none 0 0] 29)) 22 (.int .u64 b)
  rw [World.size_alloc] at bN
  have hB0 : Below w.heap.size w ((w.alloc (.cells #[.slice none 0 0] 29)).alloc (.cells #[.int .u64 b] 22)) := ((Below.refl _ w).alloc (Nat.le_refl _) _).alloc (by simp) _
  refine wpIn_rangeFunc_runs (St := NSt (w.heap.size + 1)) (Kp := NKp (w.heap.size + 1)) rfl (by decide) (gf := 20) (lb := #[.pointer (some ⟨w.heap.size + 1, 0, none⟩)]) rfl trivial (enters_of Tryd.func20 (by kernel_rfl) rfl)
    (nodes_runs 8 (by decide) (w.heap.size + 1) (by omega) b hb _ bN (hT.below hB0)) ?hKt ?hKb ?hSt (fun _ => rfl)
    (fun pre W => (∃ v, Boxed W w.heap.size 29 v ∧ W.ownsRow w.heap.size 3 1 v pre.length (pre.map enc) ∧ True) ∧ Below w.heap.size w W) (OwnFrom.and (Own.from (holdsRow_own w.heap.size w.heap.size 29 3 1 (fun pre : List Nat => pre.length) (fun pre : List Nat => pre.map enc) (fun _ _ => True)) _) (ownFrom_below (Nat.le_refl _) (by simp; omega))) ?hIS ⟨⟨_, bO.alloc _, World.ownsRow_nil _ _ _ _, trivial⟩, hB0⟩
    (fun x => { tmps := #[.int .u64 b, undef, .pointer (some ⟨w.heap.size, 0, none⟩), enc x, .int .u64 b, .func (.func 20) #[] #[.pointer (some ⟨w.heap.size + 1, 0, none⟩)], enc x, undef, undef, undef, undef, undef], defers := [] }) ?assign ?body ?done
  case hKt => exact fun h k => ⟨fun v hv => k.1 v (h.1 v hv), fun h0 => k.2 (h.2 h0)⟩
  case hKb =>
    intro W l o o' hl _ _ _
    simp at hl
    exact ⟨fun v hv => (World.putObj_heap_other (by omega)).trans hv, fun hT j hj => (World.cell?_of_block (w := W) (World.putObj_heap_other (by show (0 : Nat) ≠ l; omega))).trans (hT j hj)⟩
  case hSt =>
    rintro A B k o ⟨u, v, _, rfl⟩ hk ho
    simp at hk
    exact (Below.heap_setCell _ _ _ _ (by show k ≠ w.heap.size + 1; omega)).trans ho
  case hIS =>
    rintro s A B ⟨⟨v, hv, hrow, _⟩, hB⟩ ⟨u, v', hu, rfl⟩
    exact ⟨⟨v, (Below.heap_setCell _ _ _ _ (by show w.heap.size ≠ w.heap.size + 1; omega)).trans hv, hrow.kept (grownBy_setCell' A (w.heap.size + 1) v') (.inr (Boxed.not_row hu (by decide) hrow).symm), trivial⟩, hB.setCell (by show w.heap.size ≤ w.heap.size + 1; omega) _⟩
  case assign =>
    intro l x W K hK
    gi_wp2
    exact hK
  case body =>
    rintro l pre x W ⟨⟨v, hv, hrow, _⟩, hB⟩ hlt
    have hc := hv.cell
    gi_wp2_with (gi_at_builtin; refine wpListIn_append_own _ rfl _ _ 29 rfl w.heap.size 3 i0 (.int .i64 0) 1 8 Tryd.underlying29 hi hz0 hz1 hz2 rfl (by decide) _ _ _ rfl (hrow.alloc _) ⟨W.heap.size, 0, none⟩ 1 1 [enc x] rfl rfl (cell_one_new _ _ _) (by simp [Value.oneCell']) (by simp only [maxLen]; omega) (by omega) (by have := hB.size; simp; omega) ?_; intro v' w1 hown' hgrow _; obtain ⟨g', cap', rfl⟩ := ownsRow_succ hown'; obtain ⟨hv1, hv2, hr2, hk2, hb2⟩ := hv.appended (by decide) hrow hB.size (Nat.le_refl _) hown' hgrow; have hc1 := hv1.cell; have hf1 := hv1.frozen)
    refine ⟨hk2.from _, ⟨fun u hu => ?_, fun hT => hT.below' hb2 hpos⟩, ⟨_, hv2, by simpa using hr2, trivial⟩, hB.trans hb2⟩
    have hu1 : Boxed w1 (w.heap.size + 1) 22 u := (hu.alloc _).kept hgrow (hu.not_row (by decide) hrow)
    exact hu1.other (by omega) _
  case done =>
    rintro D ys W hD rfl ⟨⟨v, hv, hrow, _⟩, hB⟩ hK
    have hc := hv.cell
    have hf := hv.frozen
    obtain ⟨A, c, rfl⟩ := owns_form hrow
    gi_wp2
    have hv2 := hv.set (.slice A (bandL b).length c)
    have hrow2 := hrow.kept (grownBy_setCell' W w.heap.size (.slice A (bandL b).length c)) (.inr (Boxed.not_row hv (by decide) hrow).symm)
    have hB2 := hB.setCell (p := ⟨w.heap.size, 0, none⟩) (Nat.le_refl _) (.slice A (bandL b).length c)
    have hK2 : (W.setCell ⟨w.heap.size, 0, none⟩ (.slice A (bandL b).length c)).heap[D]? = some (.deferred (some [])) := (KeepsOthers.setCell W _ _).same D _ hK rfl
    generalize W.setCell ⟨w.heap.size, 0, none⟩ (.slice A (bandL b).length c) = W2 at *
    refine ⟨by simp, .inl ⟨_, _, rfl, run_takeDeferred hK2, ?_⟩⟩
    have hc3 : (W2.putObj D (.deferred none)).cell? ⟨w.heap.size, 0, none⟩ = some (.slice A (bandL b).length c) := cell_kept hv2.cell (grownBy_putObj' _ D (.deferred none)) (fun r e => by cases e; exact ⟨_, hK2, rfl⟩)
    refine ⟨.slice A (bandL b).length c, by simp [results, Tryd.results11, go_sem, hc3], _, rfl, ownsRow_putObj hrow2 _ hK2 rfl, hB2.trans ?_⟩
    have hbk : Below w.heap.size W2 (W2.putObj D (.deferred none)) := belowK_b (w := w) (Nat.le_refl _) W2 D _ _ (by simp at hD; omega) hK2 rfl rfl
    exact hbk
end Go.Proofs.YtilfngegmdedpaaDoor
