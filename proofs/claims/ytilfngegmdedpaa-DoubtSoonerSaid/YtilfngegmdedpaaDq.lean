/- Doubts of the program: Raise, a doubt that is new. -/
import Derived.Test.YtilfngegmdedpaaDp
set_option linter.unusedVariables false
set_option linter.unusedSimpArgs false
namespace Go.Proofs.Ytilfngegmdedpaa
open Go.RowKit Go.Shelf Go.Proofs
attribute [local go_sem] Oper.semAt_some

set_option maxHeartbeats 400000 in
theorem bwith0_any (n q : Nat) (hq : Hid (q = 2 ^ n)) (hn : n < 64) (w : World) :
    Calls Try.prog 19 #[.int .u64 0, .int .i64 n] w fun e w' => e = .returned (.int .u64 (q : Int)) ∧ w = w' :=
  (bwith_any 0 n (by omega) hn w).mono fun e w' h => by rw [hq.out]; simpa using h
theorem ok_fresh {node inc n now base : Nat} {nodes : Int} (h : node < 64) (hi : inc < 2 ^ 64) (hn : n < 64) (hw : now < 2 ^ 64) : OkD (fresh node inc n now base nodes) :=
  ⟨h, hi, Nat.pow_lt_pow_right (by omega) hn, hw, by show 0 < _; decide, laterB_lt _ _ hw⟩
theorem may_node {node s : Int} (h : mayB node s = true) : node < 64 := by
  simp [mayB] at h; omega

set_option maxRecDepth 100000 in
set_option maxHeartbeats 8000000 in
theorem raise_freshS (w : World) (Dd mb : Nat) (l : List Dbt) (h : DM w Dd (some mb) l) (node : Nat) (inc n : Nat) (now : Nat) (nodes : Int) (base : Nat) (hbase : base < 18446744073709551616) (hnodes : nodes ≤ 9223372036854775807) (hnow : now < 2 ^ 64) (hinc : inc < 2 ^ 64) (hok : okRaise (node : Int) 1 (n : Int) = true) (m0 m2 : Int) (i1 f1 t1 k1 e1 : Nat) (is : Bool) (his : is = true → i1 < inc)
    (hlk0 : ∀ wx, DM wx Dd (some mb) l → (Instr.lookup 25 (.map (some mb)) (.int .i64 node) true).run Try.prog wx = .ok (.tuple #[.agg #[.int .i64 m0, .int .u64 i1, .int .i64 m2, .int .u64 f1, .int .u64 t1, .int .u64 k1, .int .u64 e1], .bool is]) wx) :
    Calls Try.prog 6 #[.pointer (some ⟨Dd, 0, none⟩), .agg #[.int .i64 node, .int .u64 inc, .int .i64 1], .int .i64 n, .int .u64 now, .int .i64 nodes, .float .f64 base] w fun e w' => e = .returned (.tuple #[.bool true, .int .i64 0]) ∧ DM w' Dd (some mb) (lput l (fresh node inc n now base nodes)) ∧ Fr (fun k => some k = some mb) w w' := by
  have hB0 : Below w.heap.size w (w.alloc (.cells #[.int .i64 node, .int .u64 inc, .int .i64 1] 34)) := (Below.refl _ w).alloc (Nat.le_refl _) _
  have bU := BoxC.new w 34 #[.int .i64 node, .int .u64 inc, .int .i64 1]
  have hs0 : (w.alloc (.cells #[.int .i64 node, .int .u64 inc, .int .i64 1] 34)).heap.size = w.heap.size + 1 := by simp
  simp only [okRaise, Bool.and_eq_true, decide_eq_true_eq] at hok
  obtain ⟨⟨⟨hm, -⟩, hn0⟩, hn1⟩ := hok
  have hm' := Lib.hid hm
  have hall : ∀ w1 : World, Below (w.alloc (.cells #[.int .i64 node, .int .u64 inc, .int .i64 1] 34)).heap.size (w.alloc (.cells #[.int .i64 node, .int .u64 inc, .int .i64 1] 34)) w1 →
      w1.cell? ⟨w.heap.size, 0, none⟩ = some (.int .i64 node) ∧ w1.cell? ⟨w.heap.size, 1, none⟩ = some (.int .u64 inc) ∧ w1.cell? ⟨w.heap.size, 2, none⟩ = some (.int .i64 1) ∧ w1.cell? ⟨Dd, 0, none⟩ = some (.map (some mb)) ∧ DM w1 Dd (some mb) l ∧ Below w.heap.size w w1 ∧ w.heap.size + 1 ≤ w1.heap.size ∧ Dd < w.heap.size :=
    fun w1 hb => by
      have hu := bU.below hb (by rw [hs0]; omega)
      have hD : DM w1 Dd (some mb) l := (h.below hB0 (Nat.le_refl _)).below hb (Nat.le_refl _)
      have := hb.size
      exact ⟨hu.cell 0, hu.cell 1, hu.cell 2, hD.box.cell 0, hD, hB0.trans (hb.mono (by omega)), by omega, h.box.lt⟩
  have hnn : n < 64 := by omega
  have hnode := may_node hm
  obtain ⟨q, hq⟩ : ∃ q, Hid (q = 2 ^ n) := ⟨_, Lib.hid rfl⟩
  clear hm
  go_enter Try.func6, Try.ntmps6
  go_wp2_with (first | (go_at_call 17; refine (may_any node inc 1 _).mono ?_; rw [hm'.out]; rintro e w1 ⟨rfl, hB1⟩; obtain ⟨u0, u1, u2, dc, hDM, hBw, hsz1, hDlt⟩ := hall _ hB1; clear hall bU hB0 hs0) | fail)
  have hlk : ∀ wx : World, Below w1.heap.size w1 wx → (Instr.lookup 25 (.map (some mb)) (.int .i64 node) true).run Try.prog wx = .ok (.tuple #[.agg #[.int .i64 m0, .int .u64 i1, .int .i64 m2, .int .u64 f1, .int .u64 t1, .int .u64 k1, .int .u64 e1], .bool is]) wx := fun wx hb => hlk0 wx (hDM.below hb (Nat.le_refl _))
  have kA : ∀ o, Below w1.heap.size w1 (w1.alloc o) := fun o => (Below.refl _ w1).alloc (Nat.le_refl _) o
  have kU : ∀ o i, (w1.alloc o).cell? ⟨w.heap.size, i, none⟩ = w1.cell? ⟨w.heap.size, i, none⟩ := fun o i => (kA o).cell (p := ⟨w.heap.size, i, none⟩) (by show w.heap.size < _; omega)
  have kD : ∀ o, (w1.alloc o).cell? ⟨Dd, 0, none⟩ = w1.cell? ⟨Dd, 0, none⟩ := fun o => (kA o).cell (p := ⟨Dd, 0, none⟩) (by show Dd < _; omega)
  go_region_held3 (fun w' => Below w1.heap.size w1 w' ∧ w'.cell? ⟨Dd, 0, none⟩ = some (.map (some mb)) ∧ w'.cell? ⟨w.heap.size, 0, none⟩ = some (.int .i64 node)) (first | exact ⟨(Below.refl _ _).drew, dc, u0⟩ | exact ⟨(kA _).drew, (kD _).trans dc, (kU _ 0).trans u0⟩ | go_keep) (first | fail)
  all_goals
    have hx1 : (w1.alloc (.cells #[.int .i64 m0, .int .u64 i1, .int .i64 m2, .int .u64 f1, .int .u64 t1, .int .u64 k1, .int .u64 e1] 55)).drew.cell? ⟨w1.heap.size, 1, none⟩ = some (.int .u64 i1) := (BoxC.new w1 _ _).cell 1
    have hv0 : ∀ o, (w1.alloc o).drew.cell? ⟨w.heap.size, 0, none⟩ = some (.int .i64 node) := fun o => (kU o 0).trans u0
    have hv1 : ∀ o, (w1.alloc o).drew.cell? ⟨w.heap.size, 1, none⟩ = some (.int .u64 inc) := fun o => (kU o 1).trans u1
    have hv2 : ∀ o, (w1.alloc o).drew.cell? ⟨w.heap.size, 2, none⟩ = some (.int .i64 1) := fun o => (kU o 2).trans u2
    clear hlk
    have hcase : is = false ∨ (is = true ∧ (decide (inc < i1) = false) ∧ ((i1 == inc) = false) ∧ (((i1 : Int) == (inc : Int)) = false)) := by
      cases is with
      | false => exact .inl rfl
      | true => have := his rfl; exact .inr ⟨rfl, by simp; omega, by simp; omega, by simp; omega⟩
    clear his
    rcases hcase with rfl | ⟨rfl, q1, q2, q3⟩
    · go_wp2_with fail
      go_region_held3 (fun w' => w'.cell? ⟨w.heap.size, 0, none⟩ = some (.int .i64 node) ∧ w'.cell? ⟨w.heap.size, 1, none⟩ = some (.int .u64 inc) ∧ w'.cell? ⟨w.heap.size, 2, none⟩ = some (.int .i64 1)) (go_keep)
        (first | (go_at_call 19; refine (bwith0_any n q hq hnn _).mono ?_; rintro e w' ⟨rfl, rfl⟩))
      all_goals
        have bX2 : BoxC (w1.alloc (.cells (cellsD ⟨node, inc, q, now, 0, 0⟩) 55)).drew.drew w1.heap.size 55 (cellsD ⟨node, inc, q, now, 0, 0⟩) := BoxC.new w1 _ _
        have hwt := dwait_any w1.heap.size ⟨node, inc, q, now, 0, 0⟩ base hbase nodes hnodes hnow _ bX2
        have hD3' : DM (w1.alloc (.cells (cellsD ⟨node, inc, q, now, 0, 0⟩) 55)).drew.drew Dd (some mb) l := hDM.below ((kA _).drew.drew) (Nat.le_refl _)
        have hu0' : (w1.alloc (.cells (cellsD ⟨node, inc, q, now, 0, 0⟩) 55)).drew.drew.cell? ⟨w.heap.size, 0, none⟩ = some (.int .i64 node) := (kU _ 0).trans u0
        have hBw3 : Below w.heap.size w (w1.alloc (.cells (cellsD ⟨node, inc, q, now, 0, 0⟩) 55)).drew.drew := (hBw.trans ((kA _).mono (by omega))).drew.drew
        have hz3 : (w1.alloc (.cells (cellsD ⟨node, inc, q, now, 0, 0⟩) 55)).drew.drew.heap.size = w1.heap.size + 1 := by simp
        have hnil := fun w => run_eql_map_nil (P := Try.prog) w 25 _ _ (some mb) Try.underlying25
        clear kA kU kD hv0 hv1 hv2
        go_wp2_with (first | (go_at_call 20; refine hwt.mono ?_; rintro e w5 ⟨⟨v5, rfl⟩, hg5, bX5⟩; obtain ⟨hD5, dc5, u5, y0, y1, y2, y3, y4, y5, y6⟩ := after_wait hD3' hu0' hg5 bX5 (fun k hk => by have := hDM.lt k hk; omega) (by omega) (by omega); obtain ⟨o, ho, hmo⟩ := run_update (P := Try.prog) (T := 25) Try.underlying25 Try.underlying3 (w := w5.drew) hD5.map_some node (.agg #[.int .i64 node, .int .u64 inc, .int .i64 1, .int .u64 q, .int .u64 now, .int .u64 0, .int .u64 (endB base nodes now 0)])))
        go_region
        all_goals
          have hput := after_put (d := fresh node inc n now base nodes) (o := o) hD5 (ok_fresh (by omega) hinc hnn hnow) (by
            unfold fresh
            rw [← hq.out]
            exact hmo)
          have hfr := (Fr.of_below (S := fun k => some k = some mb) hBw3 (fun i h1 h2 => absurd h1 (by omega))).trans ((Fr.of_grown hg5 (S := fun k => k = w1.heap.size) (fun k e => by cases e; rfl))) (fun i h1 h2 => absurd h1 (by omega))
          have hfr2 := hfr.trans hput.2 (fun _ _ h => h)
          go_wp2
          go_ret2
          exact ⟨rfl, hput.1, hfr2⟩
    · go_wp2_with fail
      go_region_held3 (fun w' => w'.cell? ⟨w.heap.size, 0, none⟩ = some (.int .i64 node) ∧ w'.cell? ⟨w.heap.size, 1, none⟩ = some (.int .u64 inc) ∧ w'.cell? ⟨w.heap.size, 2, none⟩ = some (.int .i64 1)) (go_keep)
        (first | (go_at_call 19; refine (bwith0_any n q hq hnn _).mono ?_; rintro e w' ⟨rfl, rfl⟩))
      all_goals
        have bX2 : BoxC (w1.alloc (.cells (cellsD ⟨node, inc, q, now, 0, 0⟩) 55)).drew.drew w1.heap.size 55 (cellsD ⟨node, inc, q, now, 0, 0⟩) := BoxC.new w1 _ _
        have hwt := dwait_any w1.heap.size ⟨node, inc, q, now, 0, 0⟩ base hbase nodes hnodes hnow _ bX2
        have hD3' : DM (w1.alloc (.cells (cellsD ⟨node, inc, q, now, 0, 0⟩) 55)).drew.drew Dd (some mb) l := hDM.below ((kA _).drew.drew) (Nat.le_refl _)
        have hu0' : (w1.alloc (.cells (cellsD ⟨node, inc, q, now, 0, 0⟩) 55)).drew.drew.cell? ⟨w.heap.size, 0, none⟩ = some (.int .i64 node) := (kU _ 0).trans u0
        have hBw3 : Below w.heap.size w (w1.alloc (.cells (cellsD ⟨node, inc, q, now, 0, 0⟩) 55)).drew.drew := (hBw.trans ((kA _).mono (by omega))).drew.drew
        have hz3 : (w1.alloc (.cells (cellsD ⟨node, inc, q, now, 0, 0⟩) 55)).drew.drew.heap.size = w1.heap.size + 1 := by simp
        have hnil := fun w => run_eql_map_nil (P := Try.prog) w 25 _ _ (some mb) Try.underlying25
        clear kA kU kD hv0 hv1 hv2
        go_wp2_with (first | (go_at_call 20; refine hwt.mono ?_; rintro e w5 ⟨⟨v5, rfl⟩, hg5, bX5⟩; obtain ⟨hD5, dc5, u5, y0, y1, y2, y3, y4, y5, y6⟩ := after_wait hD3' hu0' hg5 bX5 (fun k hk => by have := hDM.lt k hk; omega) (by omega) (by omega); obtain ⟨o, ho, hmo⟩ := run_update (P := Try.prog) (T := 25) Try.underlying25 Try.underlying3 (w := w5.drew) hD5.map_some node (.agg #[.int .i64 node, .int .u64 inc, .int .i64 1, .int .u64 q, .int .u64 now, .int .u64 0, .int .u64 (endB base nodes now 0)])))
        go_region
        all_goals
          have hput := after_put (d := fresh node inc n now base nodes) (o := o) hD5 (ok_fresh (by omega) hinc hnn hnow) (by
            unfold fresh
            rw [← hq.out]
            exact hmo)
          have hfr := (Fr.of_below (S := fun k => some k = some mb) hBw3 (fun i h1 h2 => absurd h1 (by omega))).trans ((Fr.of_grown hg5 (S := fun k => k = w1.heap.size) (fun k e => by cases e; rfl))) (fun i h1 h2 => absurd h1 (by omega))
          have hfr2 := hfr.trans hput.2 (fun _ _ h => h)
          go_wp2
          go_ret2
          exact ⟨rfl, hput.1, hfr2⟩
theorem after_make {w5 : World} {Dd X U : Nat} {nd : Value} {d : Dbt} (h : DM w5 Dd none []) (hX : BoxC w5 X 55 (cellsD d)) (hu : w5.cell? ⟨U, 0, none⟩ = some nd) (hXD : X ≠ Dd) (hUD : U ≠ Dd) (hUl : U < w5.heap.size) :
    (w5.alloc (.map #[] 0)).cell? ⟨Dd, 0, none⟩ = some (.map none) ∧ (w5.alloc (.map #[] 0)).frozen? ⟨Dd, 0, none⟩ = false ∧
      ∀ W6, W6 = (w5.alloc (.map #[] 0)).setCell ⟨Dd, 0, none⟩ (.map (some w5.heap.size)) → DM W6 Dd (some w5.heap.size) [] ∧ W6.cell? ⟨Dd, 0, none⟩ = some (.map (some w5.heap.size)) ∧ W6.cell? ⟨U, 0, none⟩ = some nd ∧ W6.cell? ⟨X, 0, none⟩ = some (.int .i64 d.node) ∧ W6.cell? ⟨X, 1, none⟩ = some (.int .u64 d.inc) ∧ W6.cell? ⟨X, 2, none⟩ = some (.int .i64 1) ∧
      W6.cell? ⟨X, 3, none⟩ = some (.int .u64 d.who) ∧ W6.cell? ⟨X, 4, none⟩ = some (.int .u64 d.since) ∧ W6.cell? ⟨X, 5, none⟩ = some (.int .u64 d.told) ∧ W6.cell? ⟨X, 6, none⟩ = some (.int .u64 d.til) ∧ Fr (fun k => k = Dd) w5 W6 := by
  have b1 := h.box.alloc (.map #[] 0)
  refine ⟨b1.cell 0, b1.frozen 0, ?_⟩
  rintro W6 rfl
  have b2 := b1.set 0 (.map (some w5.heap.size))
  have x2 := (hX.alloc (.map #[] 0)).other (i := 0) hXD (.map (some w5.heap.size))
  have hm := (IntMap.made w5).setCell ⟨Dd, 0, none⟩ (.map (some w5.heap.size))
  have f : Fr (fun k => k = Dd) w5 ((w5.alloc (.map #[] 0)).setCell ⟨Dd, 0, none⟩ (.map (some w5.heap.size))) :=
    (Fr.of_below (S := fun k => k = Dd) ((Below.refl _ w5).alloc (Nat.le_refl _) (.map #[] 0)) (fun i h1 h2 => absurd h1 (by omega))).trans (Fr.setCell _ ⟨Dd, 0, none⟩ _ (S := fun k => k = Dd) rfl) (fun _ _ h => h)
  exact ⟨⟨b2, .inr ⟨_, rfl, hm⟩, List.nodup_nil, by simp⟩, b2.cell 0, (World.cell?_of_block (w := w5) (f.block U hUl hUD)).trans hu, x2.cell 0, x2.cell 1, x2.cell 2, x2.cell 3, x2.cell 4, x2.cell 5, x2.cell 6, f⟩

set_option maxRecDepth 100000 in
set_option maxHeartbeats 8000000 in
theorem raise_freshN (w : World) (Dd : Nat) (h : DM w Dd none []) (node : Nat) (inc n : Nat) (now : Nat) (nodes : Int) (base : Nat) (hbase : base < 18446744073709551616) (hnodes : nodes ≤ 9223372036854775807) (hnow : now < 2 ^ 64) (hinc : inc < 2 ^ 64) (hok : okRaise (node : Int) 1 (n : Int) = true) :
    Calls Try.prog 6 #[.pointer (some ⟨Dd, 0, none⟩), .agg #[.int .i64 node, .int .u64 inc, .int .i64 1], .int .i64 n, .int .u64 now, .int .i64 nodes, .float .f64 base] w fun e w' => e = .returned (.tuple #[.bool true, .int .i64 0]) ∧ ∃ b, w.heap.size ≤ b ∧ DM w' Dd (some b) [fresh node inc n now base nodes] ∧ Fr (fun k => k = Dd) w w' := by
  have hB0 : Below w.heap.size w (w.alloc (.cells #[.int .i64 node, .int .u64 inc, .int .i64 1] 34)) := (Below.refl _ w).alloc (Nat.le_refl _) _
  have bU := BoxC.new w 34 #[.int .i64 node, .int .u64 inc, .int .i64 1]
  have hs0 : (w.alloc (.cells #[.int .i64 node, .int .u64 inc, .int .i64 1] 34)).heap.size = w.heap.size + 1 := by simp
  simp only [okRaise, Bool.and_eq_true, decide_eq_true_eq] at hok
  obtain ⟨⟨⟨hm, -⟩, hn0⟩, hn1⟩ := hok
  have hm' := Lib.hid hm
  have hall : ∀ w1 : World, Below (w.alloc (.cells #[.int .i64 node, .int .u64 inc, .int .i64 1] 34)).heap.size (w.alloc (.cells #[.int .i64 node, .int .u64 inc, .int .i64 1] 34)) w1 →
      w1.cell? ⟨w.heap.size, 0, none⟩ = some (.int .i64 node) ∧ w1.cell? ⟨w.heap.size, 1, none⟩ = some (.int .u64 inc) ∧ w1.cell? ⟨w.heap.size, 2, none⟩ = some (.int .i64 1) ∧ w1.cell? ⟨Dd, 0, none⟩ = some (.map none) ∧ DM w1 Dd none [] ∧ Below w.heap.size w w1 ∧ w.heap.size + 1 ≤ w1.heap.size ∧ Dd < w.heap.size :=
    fun w1 hb => by
      have hu := bU.below hb (by rw [hs0]; omega)
      have hD : DM w1 Dd none [] := (h.below hB0 (Nat.le_refl _)).below hb (Nat.le_refl _)
      have := hb.size
      exact ⟨hu.cell 0, hu.cell 1, hu.cell 2, hD.box.cell 0, hD, hB0.trans (hb.mono (by omega)), by omega, h.box.lt⟩
  have hnn : n < 64 := by omega
  have hnode := may_node hm
  obtain ⟨q, hq⟩ : ∃ q, Hid (q = 2 ^ n) := ⟨_, Lib.hid rfl⟩
  clear hm
  go_enter Try.func6, Try.ntmps6
  go_wp2_with (first | (go_at_call 17; refine (may_any node inc 1 _).mono ?_; rw [hm'.out]; rintro e w1 ⟨rfl, hB1⟩; obtain ⟨u0, u1, u2, dc, hDM, hBw, hsz1, hDlt⟩ := hall _ hB1; clear hall bU hB0 hs0) | fail)
  have hlk : ∀ wx : World, Below w1.heap.size w1 wx → (Instr.lookup 25 (.map none) (.int .i64 node) true).run Try.prog wx = .ok (.tuple #[.agg #[.int .i64 0, .int .u64 0, .int .i64 0, .int .u64 0, .int .u64 0, .int .u64 0, .int .u64 0], .bool false]) wx := fun wx hb => lookD (hDM.below hb (Nat.le_refl _)) node
  have kA : ∀ o, Below w1.heap.size w1 (w1.alloc o) := fun o => (Below.refl _ w1).alloc (Nat.le_refl _) o
  have kU : ∀ o i, (w1.alloc o).cell? ⟨w.heap.size, i, none⟩ = w1.cell? ⟨w.heap.size, i, none⟩ := fun o i => (kA o).cell (p := ⟨w.heap.size, i, none⟩) (by show w.heap.size < _; omega)
  have kD : ∀ o, (w1.alloc o).cell? ⟨Dd, 0, none⟩ = w1.cell? ⟨Dd, 0, none⟩ := fun o => (kA o).cell (p := ⟨Dd, 0, none⟩) (by show Dd < _; omega)
  go_region_held3 (fun w' => Below w1.heap.size w1 w' ∧ w'.cell? ⟨Dd, 0, none⟩ = some (.map none) ∧ w'.cell? ⟨w.heap.size, 0, none⟩ = some (.int .i64 node)) (first | exact ⟨(Below.refl _ _).drew, dc, u0⟩ | exact ⟨(kA _).drew, (kD _).trans dc, (kU _ 0).trans u0⟩ | go_keep) (first | fail)
  all_goals
    have hx1 : (w1.alloc (.cells #[.int .i64 0, .int .u64 0, .int .i64 0, .int .u64 0, .int .u64 0, .int .u64 0, .int .u64 0] 55)).drew.cell? ⟨w1.heap.size, 1, none⟩ = some (.int .u64 0) := (BoxC.new w1 _ _).cell 1
    have hv0 : ∀ o, (w1.alloc o).drew.cell? ⟨w.heap.size, 0, none⟩ = some (.int .i64 node) := fun o => (kU o 0).trans u0
    have hv1 : ∀ o, (w1.alloc o).drew.cell? ⟨w.heap.size, 1, none⟩ = some (.int .u64 inc) := fun o => (kU o 1).trans u1
    have hv2 : ∀ o, (w1.alloc o).drew.cell? ⟨w.heap.size, 2, none⟩ = some (.int .i64 1) := fun o => (kU o 2).trans u2
    clear hlk
    go_wp2_with fail
    go_region_held3 (fun w' => w'.cell? ⟨w.heap.size, 0, none⟩ = some (.int .i64 node) ∧ w'.cell? ⟨w.heap.size, 1, none⟩ = some (.int .u64 inc) ∧ w'.cell? ⟨w.heap.size, 2, none⟩ = some (.int .i64 1)) (go_keep)
      (first | (go_at_call 19; refine (bwith0_any n q hq hnn _).mono ?_; rintro e w' ⟨rfl, rfl⟩))
    all_goals
      have bX2 : BoxC (w1.alloc (.cells (cellsD ⟨node, inc, q, now, 0, 0⟩) 55)).drew.drew w1.heap.size 55 (cellsD ⟨node, inc, q, now, 0, 0⟩) := BoxC.new w1 _ _
      have hwt := dwait_any w1.heap.size ⟨node, inc, q, now, 0, 0⟩ base hbase nodes hnodes hnow _ bX2
      have hD3' : DM (w1.alloc (.cells (cellsD ⟨node, inc, q, now, 0, 0⟩) 55)).drew.drew Dd none [] := hDM.below ((kA _).drew.drew) (Nat.le_refl _)
      have hu0' : (w1.alloc (.cells (cellsD ⟨node, inc, q, now, 0, 0⟩) 55)).drew.drew.cell? ⟨w.heap.size, 0, none⟩ = some (.int .i64 node) := (kU _ 0).trans u0
      have hBw3 : Below w.heap.size w (w1.alloc (.cells (cellsD ⟨node, inc, q, now, 0, 0⟩) 55)).drew.drew := (hBw.trans ((kA _).mono (by omega))).drew.drew
      have hz3 : (w1.alloc (.cells (cellsD ⟨node, inc, q, now, 0, 0⟩) 55)).drew.drew.heap.size = w1.heap.size + 1 := by simp
      have hmk := fun w => run_makeMap (P := Try.prog) 25 w
      have hnil := fun w => run_eql_map_nil (P := Try.prog) w 25 _ _ none Try.underlying25
      clear kA kU kD hv0 hv1 hv2
      go_wp2_with (first | (go_at_call 20; refine hwt.mono ?_; rintro e w5 ⟨⟨v5, rfl⟩, hg5, bX5⟩; obtain ⟨hD5, dc5, u5, y0, y1, y2, y3, y4, y5, y6⟩ := after_wait hD3' hu0' hg5 bX5 (fun k hk => by have := hDM.lt k hk; omega) (by omega) (by omega); obtain ⟨c1, c2, hall6⟩ := after_make hD5 bX5 u5 (by omega) (by omega) (by have := hg5.size; omega)))
      obtain ⟨W6, hW6⟩ : ∃ W6, W6 = (w5.alloc (.map #[] 0)).setCell ⟨Dd, 0, none⟩ (.map (some w5.heap.size)) := ⟨_, rfl⟩
      obtain ⟨hD6, dc6, u6, x0, x1, x2, x3, x4, x5, x6, f6⟩ := hall6 _ hW6
      rw [← hW6]
      clear hall6 c1 c2 dc5 u5 y0 y1 y2 y3 y4 y5 y6 hnil hmk hW6
      obtain ⟨o, ho, hmo⟩ := run_update (P := Try.prog) (T := 25) Try.underlying25 Try.underlying3 (w := W6.drew) hD6.map_some node (.agg #[.int .i64 node, .int .u64 inc, .int .i64 1, .int .u64 q, .int .u64 now, .int .u64 0, .int .u64 (endB base nodes now 0)])
      have hgs := hg5.size
      generalize w5.heap.size = mb at *
      go_region
      all_goals
        have hput := after_put (d := fresh node inc n now base nodes) (o := o) hD6 (ok_fresh (by omega) hinc hnn hnow) (by
          unfold fresh
          rw [← hq.out]
          exact hmo)
        have hfr := (Fr.of_below (S := fun k => k = Dd) hBw3 (fun i h1 h2 => absurd h1 (by omega))).trans ((Fr.of_grown hg5 (S := fun k => k = w1.heap.size) (fun k e => by cases e; rfl))) (fun i h1 h2 => absurd h1 (by omega))
        have hsz := hBw.size
        have hfr2 := (hfr.trans f6 (fun _ _ h => h)).trans hput.2 (fun i h1 h2 => by cases h2; omega)
        go_wp2
        go_ret2
        exact ⟨rfl, mb, by omega, hput.1, hfr2⟩
end Go.Proofs.Ytilfngegmdedpaa
