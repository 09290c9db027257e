/- Doubts of the program: Raise. -/
import Derived.Test.YtilfngegmdedpaaDo
set_option linter.unusedVariables false
set_option linter.unusedSimpArgs false
namespace Go.Proofs.Ytilfngegmdedpaa
open Go.RowKit Go.Shelf Go.Proofs
attribute [local go_sem] Oper.semAt_some

/-- What a block becomes when its cells are laid anew. -/
theorem BoxC.setCells {B : Nat} {t : TypeId} : ∀ (vs : List Value) (i : Nat) (w : World) (pre cs : List Value), BoxC w B t (pre ++ cs).toArray → pre.length = i → vs.length = cs.length →
    BoxC (w.setCells B i vs) B t (pre ++ vs).toArray ∧ Fr (fun k => k = B) w (w.setCells B i vs)
  | [], i, w, pre, cs, h, hp, hl => by
    have : cs = [] := List.length_eq_zero_iff.1 (by simpa using hl.symm)
    subst this
    exact ⟨h, Fr.refl _ _⟩
  | v :: vs, i, w, pre, cs, h, hp, hl => by
    cases cs with
    | nil => simp at hl
    | cons c cs =>
      have h1 := h.set i v
      have e : (pre ++ c :: cs).toArray.setIfInBounds i v = ((pre ++ [v]) ++ cs).toArray := by
        subst hp
        simp
      rw [e] at h1
      obtain ⟨h2, h3⟩ := BoxC.setCells vs (i + 1) (w.setCell ⟨B, i, none⟩ v) (pre ++ [v]) cs h1 (by simp [hp]) (by simpa using hl)
      rw [List.append_assoc] at h2
      exact ⟨h2, (Fr.setCell w ⟨B, i, none⟩ v (S := fun k => k = B) rfl).trans h3 (fun _ _ h => h)⟩
theorem BoxC.there {w : World} {B : Nat} {t : TypeId} {cs : Array Value} (h : BoxC w B t cs) : w.there B 0 cs.size := by
  intro j hj
  have hc := h.cell (0 + j)
  have hf := h.frozen (0 + j)
  rw [hc, hf]
  simp [hj]

/-- A doubt's new self, where it turns; and the answer. -/
def fresh (node inc n now base : Nat) (nodes : Int) : Dbt := ⟨node, inc, 2 ^ n, now, 0, endB base nodes now 0⟩
def more (x : Dbt) (n base : Nat) (nodes : Int) : Dbt := { x with who := x.who ||| 2 ^ n, told := (x.told + 1) % 2 ^ 64, til := endB base nodes x.since ((x.told + 1) % 2 ^ 64) }
def rstep (o : Option Dbt) (node inc n now base : Nat) (nodes : Int) : Option Dbt × Bool × Int :=
  match o with
  | some x =>
    if inc < x.inc then (none, false, 70)
    else if x.inc = inc then (if x.who.testBit n then (none, false, 0) else (some (more x n base nodes), true, 0))
    else (some (fresh node inc n now base nodes), true, 0)
  | none => (some (fresh node inc n now base nodes), true, 0)
def lstep (l : List Dbt) (o : Option Dbt) : List Dbt := match o with | some d => lput l d | none => l

/-- May it be raised? -/
def okRaise (node s n : Int) : Bool := mayB node s && decide (s = 1) && decide (0 ≤ n) && decide (n < 64)

set_option maxRecDepth 100000 in
set_option maxHeartbeats 4000000 in
theorem raise_bad (w : World) (Dd : Nat) (node inc s n now nodes : Int) (base : Nat) (hbad : okRaise node s n = false) :
    Calls Try.prog 6 #[.pointer (some ⟨Dd, 0, none⟩), .agg #[.int .i64 node, .int .u64 inc, .int .i64 s], .int .i64 n, .int .u64 now, .int .i64 nodes, .float .f64 base] w fun e w' => e = .returned (.tuple #[.bool false, .int .i64 1]) ∧ Below w.heap.size w w' := by
  have hB0 : Below w.heap.size w (w.alloc (.cells #[.int .i64 node, .int .u64 inc, .int .i64 s] 34)) := (Below.refl _ w).alloc (Nat.le_refl _) _
  have bU := BoxC.new w 34 #[.int .i64 node, .int .u64 inc, .int .i64 s]
  have hs0 : (w.alloc (.cells #[.int .i64 node, .int .u64 inc, .int .i64 s] 34)).heap.size = w.heap.size + 1 := by simp
  cases hm : mayB node s with
  | false =>
    have hm' := Lib.hid hm
    clear hm
    go_enter Try.func6, Try.ntmps6
    go_wp2_with (go_at_call 17; refine (may_any node inc s _).mono ?_; rw [hm'.out]; rintro e w1 ⟨rfl, hB1⟩)
    refine bodyPost_ret (v := .tuple #[.bool false, .int .i64 1]) (by simp [results, Try.results6, go_sem]) rfl ?_
    exact ⟨rfl, hB0.trans (hB1.mono (by omega))⟩
  | true =>
    have hm' := Lib.hid hm
    have hb : s = 1 → 0 ≤ n → n < 64 → False := fun h1 h2 h3 => by subst h1; simp [okRaise, hm, h2, h3] at hbad
    have hb' := Lib.hid hb
    clear hm hb hbad
    have hkey : ∀ w1 : World, Below (w.alloc (.cells #[.int .i64 node, .int .u64 inc, .int .i64 s] 34)).heap.size (w.alloc (.cells #[.int .i64 node, .int .u64 inc, .int .i64 s] 34)) w1 → w1.cell? ⟨w.heap.size, 2, none⟩ = some (.int .i64 s) := fun w1 h => (bU.below h (by rw [hs0]; omega)).cell 2
    by_cases h1 : s = 1
    · by_cases h2 : 0 ≤ n
      · have h3 : 64 ≤ n := by
          apply Classical.byContradiction
          intro hc
          exact hb'.out h1 h2 (by omega)
        subst h1
        go_enter Try.func6, Try.ntmps6
        go_wp2_with (go_at_call 17; refine (may_any node inc 1 _).mono ?_; rw [hm'.out]; rintro e w1 ⟨rfl, hB1⟩; have hc2 := hkey _ hB1)
        refine bodyPost_ret (v := .tuple #[.bool false, .int .i64 1]) (by simp [results, Try.results6, go_sem]) rfl ?_
        exact ⟨rfl, hB0.trans (hB1.mono (by omega))⟩
      · have h3 : n < 0 := by omega
        subst h1
        go_enter Try.func6, Try.ntmps6
        go_wp2_with (go_at_call 17; refine (may_any node inc 1 _).mono ?_; rw [hm'.out]; rintro e w1 ⟨rfl, hB1⟩; have hc2 := hkey _ hB1)
        refine bodyPost_ret (v := .tuple #[.bool false, .int .i64 1]) (by simp [results, Try.results6, go_sem]) rfl ?_
        exact ⟨rfl, hB0.trans (hB1.mono (by omega))⟩
    · have h1' : (s != 1) = true := by simp [h1]
      go_enter Try.func6, Try.ntmps6
      go_wp2_with (go_at_call 17; refine (may_any node inc s _).mono ?_; rw [hm'.out]; rintro e w1 ⟨rfl, hB1⟩; have hc2 := hkey _ hB1)
      refine bodyPost_ret (v := .tuple #[.bool false, .int .i64 1]) (by simp [results, Try.results6, go_sem]) rfl ?_
      exact ⟨rfl, hB0.trans (hB1.mono (by omega))⟩

theorem lookD {w : World} {Dd : Nat} {r : Option Nat} {l : List Dbt} (h : DM w Dd r l) (n : Int) : (Instr.lookup 25 (.map r) (.int .i64 n) true).run Try.prog w =
    .ok (.tuple #[.agg (match lget l n with | some d => cellsD d | none => #[.int .i64 0, .int .u64 0, .int .i64 0, .int .u64 0, .int .u64 0, .int .u64 0, .int .u64 0]), .bool (lget l n).isSome]) w := by
  rcases h.map with ⟨rfl, rfl⟩ | ⟨mb, rfl, hm⟩
  · have := run_lookup_nil (P := Try.prog) Try.underlying25 Try.underlying3 (zeroD w) n true
    rw [show lget [] n = none from rfl]
    simpa using this
  · have := run_lookup (P := Try.prog) Try.underlying25 Try.underlying3 (zeroD w) hm n true
    rw [mget_ent] at this
    cases hg : lget l n with
    | none => rw [hg] at this; simpa using this
    | some d => rw [hg] at this; simpa using this

set_option maxRecDepth 100000 in
set_option maxHeartbeats 8000000 in
theorem raise_old (w : World) (Dd : Nat) (r : Option Nat) (l : List Dbt) (h : DM w Dd r l) (node : Nat) (inc n : Nat) (now nodes : Int) (base : Nat) (hok : okRaise (node : Int) 1 (n : Int) = true) (x : Dbt) (hx : lget l node = some x) (hlt : inc < x.inc) :
    Calls Try.prog 6 #[.pointer (some ⟨Dd, 0, none⟩), .agg #[.int .i64 node, .int .u64 inc, .int .i64 1], .int .i64 n, .int .u64 now, .int .i64 nodes, .float .f64 base] w fun e w' => e = .returned (.tuple #[.bool false, .int .i64 70]) ∧ Below w.heap.size w w' := by
  have hB0 : Below w.heap.size w (w.alloc (.cells #[.int .i64 node, .int .u64 inc, .int .i64 1] 34)) := (Below.refl _ w).alloc (Nat.le_refl _) _
  have bU := BoxC.new w 34 #[.int .i64 node, .int .u64 inc, .int .i64 1]
  have hs0 : (w.alloc (.cells #[.int .i64 node, .int .u64 inc, .int .i64 1] 34)).heap.size = w.heap.size + 1 := by simp
  simp only [okRaise, Bool.and_eq_true, decide_eq_true_eq] at hok
  obtain ⟨⟨⟨hm, -⟩, hn0⟩, hn1⟩ := hok
  have hm' := Lib.hid hm
  have hall : ∀ w1 : World, Below (w.alloc (.cells #[.int .i64 node, .int .u64 inc, .int .i64 1] 34)).heap.size (w.alloc (.cells #[.int .i64 node, .int .u64 inc, .int .i64 1] 34)) w1 →
      w1.cell? ⟨w.heap.size, 0, none⟩ = some (.int .i64 node) ∧ w1.cell? ⟨w.heap.size, 1, none⟩ = some (.int .u64 inc) ∧ w1.cell? ⟨w.heap.size, 2, none⟩ = some (.int .i64 1) ∧ w1.cell? ⟨Dd, 0, none⟩ = some (.map r) ∧ DM w1 Dd r l ∧ Below w.heap.size w w1 ∧ w.heap.size + 1 ≤ w1.heap.size ∧ Dd < w.heap.size :=
    fun w1 hb => by
      have hu := bU.below hb (by rw [hs0]; omega)
      have hD : DM w1 Dd r l := (h.below hB0 (Nat.le_refl _)).below hb (Nat.le_refl _)
      have := hb.size
      exact ⟨hu.cell 0, hu.cell 1, hu.cell 2, hD.box.cell 0, hD, hB0.trans (hb.mono (by omega)), by omega, h.box.lt⟩
  have hcmp : (inc : Int) < (x.inc : Int) := by omega
  clear hm
  go_enter Try.func6, Try.ntmps6
  go_wp2_with (first | (go_at_call 17; refine (may_any node inc 1 _).mono ?_; rw [hm'.out]; rintro e w1 ⟨rfl, hB1⟩; obtain ⟨u0, u1, u2, dc, hDM, hBw, hsz1, hDlt⟩ := hall _ hB1; clear hall bU hB0 hs0) | fail)
  have hlk : ∀ wx : World, Below w1.heap.size w1 wx → (Instr.lookup 25 (.map r) (.int .i64 node) true).run Try.prog wx = .ok (.tuple #[.agg #[.int .i64 x.node, .int .u64 x.inc, .int .i64 1, .int .u64 x.who, .int .u64 x.since, .int .u64 x.told, .int .u64 x.til], .bool true]) wx := fun wx hb => by
    have := lookD (hDM.below hb (Nat.le_refl _)) node
    rw [hx] at this
    exact this
  have kA : ∀ o, Below w1.heap.size w1 (w1.alloc o) := fun o => (Below.refl _ w1).alloc (Nat.le_refl _) o
  have kU : ∀ o i, (w1.alloc o).cell? ⟨w.heap.size, i, none⟩ = w1.cell? ⟨w.heap.size, i, none⟩ := fun o i => (kA o).cell (p := ⟨w.heap.size, i, none⟩) (by show w.heap.size < _; omega)
  have kD : ∀ o, (w1.alloc o).cell? ⟨Dd, 0, none⟩ = w1.cell? ⟨Dd, 0, none⟩ := fun o => (kA o).cell (p := ⟨Dd, 0, none⟩) (by show Dd < _; omega)
  go_region_held3 (fun w' => Below w1.heap.size w1 w' ∧ w'.cell? ⟨Dd, 0, none⟩ = some (.map r) ∧ w'.cell? ⟨w.heap.size, 0, none⟩ = some (.int .i64 node)) (first | exact ⟨(Below.refl _ _).drew, dc, u0⟩ | exact ⟨(kA _).drew, (kD _).trans dc, (kU _ 0).trans u0⟩ | go_keep) (first | fail)
  all_goals
    have bX := BoxC.new w1 55 (cellsD x)
    have hx1 : (w1.alloc (.cells (cellsD x) 55)).drew.cell? ⟨w1.heap.size, 1, none⟩ = some (.int .u64 x.inc) := bX.cell 1
    have hu1 : (w1.alloc (.cells (cellsD x) 55)).drew.cell? ⟨w.heap.size, 1, none⟩ = some (.int .u64 inc) := (kU _ 1).trans u1
    have hB3 : Below w.heap.size w (w1.alloc (.cells (cellsD x) 55)).drew := (hBw.trans ((kA _).mono (by omega))).drew
    unfold cellsD at hx1 hu1 hB3
    clear kA kU kD hlk
    go_wp2
    go_ret2
    exact ⟨rfl, hB3⟩
set_option maxRecDepth 100000 in
set_option maxHeartbeats 8000000 in
theorem raise_told (w : World) (Dd : Nat) (r : Option Nat) (l : List Dbt) (h : DM w Dd r l) (node : Nat) (inc n : Nat) (now nodes : Int) (base : Nat) (hok : okRaise (node : Int) 1 (n : Int) = true) (x : Dbt) (hx : lget l node = some x) (heq : x.inc = inc) (hbit : x.who.testBit n = true) (hwho : x.who < 2 ^ 64) :
    Calls Try.prog 6 #[.pointer (some ⟨Dd, 0, none⟩), .agg #[.int .i64 node, .int .u64 inc, .int .i64 1], .int .i64 n, .int .u64 now, .int .i64 nodes, .float .f64 base] w fun e w' => e = .returned (.tuple #[.bool false, .int .i64 0]) ∧ Below w.heap.size w w' := by
  have hB0 : Below w.heap.size w (w.alloc (.cells #[.int .i64 node, .int .u64 x.inc, .int .i64 1] 34)) := (Below.refl _ w).alloc (Nat.le_refl _) _
  have bU := BoxC.new w 34 #[.int .i64 node, .int .u64 x.inc, .int .i64 1]
  have hs0 : (w.alloc (.cells #[.int .i64 node, .int .u64 x.inc, .int .i64 1] 34)).heap.size = w.heap.size + 1 := by simp
  simp only [okRaise, Bool.and_eq_true, decide_eq_true_eq] at hok
  obtain ⟨⟨⟨hm, -⟩, hn0⟩, hn1⟩ := hok
  have hm' := Lib.hid hm
  have hall : ∀ w1 : World, Below (w.alloc (.cells #[.int .i64 node, .int .u64 x.inc, .int .i64 1] 34)).heap.size (w.alloc (.cells #[.int .i64 node, .int .u64 x.inc, .int .i64 1] 34)) w1 →
      w1.cell? ⟨w.heap.size, 0, none⟩ = some (.int .i64 node) ∧ w1.cell? ⟨w.heap.size, 1, none⟩ = some (.int .u64 x.inc) ∧ w1.cell? ⟨w.heap.size, 2, none⟩ = some (.int .i64 1) ∧ w1.cell? ⟨Dd, 0, none⟩ = some (.map r) ∧ DM w1 Dd r l ∧ Below w.heap.size w w1 ∧ w.heap.size + 1 ≤ w1.heap.size ∧ Dd < w.heap.size :=
    fun w1 hb => by
      have hu := bU.below hb (by rw [hs0]; omega)
      have hD : DM w1 Dd r l := (h.below hB0 (Nat.le_refl _)).below hb (Nat.le_refl _)
      have := hb.size
      exact ⟨hu.cell 0, hu.cell 1, hu.cell 2, hD.box.cell 0, hD, hB0.trans (hb.mono (by omega)), by omega, h.box.lt⟩
  subst heq
  have hbit' := Lib.hid hbit
  have hnn : n < 64 := by omega
  clear hbit
  clear hm
  go_enter Try.func6, Try.ntmps6
  go_wp2_with (first | (go_at_call 17; refine (may_any node x.inc 1 _).mono ?_; rw [hm'.out]; rintro e w1 ⟨rfl, hB1⟩; obtain ⟨u0, u1, u2, dc, hDM, hBw, hsz1, hDlt⟩ := hall _ hB1; clear hall bU hB0 hs0) | fail)
  have hlk : ∀ wx : World, Below w1.heap.size w1 wx → (Instr.lookup 25 (.map r) (.int .i64 node) true).run Try.prog wx = .ok (.tuple #[.agg #[.int .i64 x.node, .int .u64 x.inc, .int .i64 1, .int .u64 x.who, .int .u64 x.since, .int .u64 x.told, .int .u64 x.til], .bool true]) wx := fun wx hb => by
    have := lookD (hDM.below hb (Nat.le_refl _)) node
    rw [hx] at this
    exact this
  have kA : ∀ o, Below w1.heap.size w1 (w1.alloc o) := fun o => (Below.refl _ w1).alloc (Nat.le_refl _) o
  have kU : ∀ o i, (w1.alloc o).cell? ⟨w.heap.size, i, none⟩ = w1.cell? ⟨w.heap.size, i, none⟩ := fun o i => (kA o).cell (p := ⟨w.heap.size, i, none⟩) (by show w.heap.size < _; omega)
  have kD : ∀ o, (w1.alloc o).cell? ⟨Dd, 0, none⟩ = w1.cell? ⟨Dd, 0, none⟩ := fun o => (kA o).cell (p := ⟨Dd, 0, none⟩) (by show Dd < _; omega)
  go_region_held3 (fun w' => Below w1.heap.size w1 w' ∧ w'.cell? ⟨Dd, 0, none⟩ = some (.map r) ∧ w'.cell? ⟨w.heap.size, 0, none⟩ = some (.int .i64 node)) (first | exact ⟨(Below.refl _ _).drew, dc, u0⟩ | exact ⟨(kA _).drew, (kD _).trans dc, (kU _ 0).trans u0⟩ | go_keep) (first | fail)
  all_goals
    have bX := BoxC.new w1 55 (cellsD x)
    have hx1 : (w1.alloc (.cells (cellsD x) 55)).drew.cell? ⟨w1.heap.size, 1, none⟩ = some (.int .u64 x.inc) := bX.cell 1
    have hu1 : (w1.alloc (.cells (cellsD x) 55)).drew.cell? ⟨w.heap.size, 1, none⟩ = some (.int .u64 x.inc) := (kU _ 1).trans u1
    have hB3 : Below w.heap.size w (w1.alloc (.cells (cellsD x) 55)).drew := (hBw.trans ((kA _).mono (by omega))).drew
    have hx3 : (w1.alloc (.cells (cellsD x) 55)).drew.cell? ⟨w1.heap.size, 3, none⟩ = some (.int .u64 x.who) := bX.cell 3
    unfold cellsD at hx1 hu1 hB3 hx3
    clear kA kU kD hlk
    go_wp2_with (go_at_call 18; refine (bhas_any x.who n hwho hnn _).mono ?_; rw [hbit'.out]; rintro e w9 ⟨rfl, rfl⟩)
    go_ret2
    exact ⟨rfl, hB3⟩
theorem mem_lput {l : List Dbt} {d y : Dbt} (h : y ∈ lput l d) : y = d ∨ y ∈ l := by
  unfold lput at h
  cases hi : l.findIdx? (fun x => (x.node : Int) == (d.node : Int)) with
  | none => rw [hi] at h; rcases List.mem_append.1 h with h | h
            · exact .inr h
            · simp at h; exact .inl h
  | some i => rw [hi] at h; rcases List.mem_or_eq_of_mem_set h with h | h
              · exact .inr h
              · exact .inl h
theorem after_put {w5 : World} {Dd mb : Nat} {l : List Dbt} {d : Dbt} {o : Obj} (h : DM w5 Dd (some mb) l) (hok : OkD d) (hm : IntMap (w5.drew.putObj mb o) mb (mput (l.map ent) d.node (.agg (cellsD d)))) :
    DM (w5.drew.putObj mb o) Dd (some mb) (lput l d) ∧ Fr (fun k => some k = some mb) w5 (w5.drew.putObj mb o) := by
  have g := Fr.putObj w5.drew mb o (S := fun k => some k = some mb) rfl
  have f : Fr (fun k => some k = some mb) w5 (w5.drew.putObj mb o) := ⟨g.os, g.tape, g.output, g.size, g.block⟩
  have hne := box_not_map h.box h.map_some
  refine ⟨⟨f.boxC h.box (fun e => hne (by cases e; rfl)), .inr ⟨mb, rfl, by rw [← mput_ent]; exact hm⟩, uniq_lput l d h.uniq, fun y hy => ?_⟩, f⟩
  rcases mem_lput hy with rfl | hy
  · exact hok
  · exact h.ok y hy
theorem ok_more {x : Dbt} {n base : Nat} {nodes : Int} (h : OkD x) (hn : n < 64) : OkD (more x n base nodes) := by
  obtain ⟨h1, h2, h3, h4, h5, h6⟩ := h
  exact ⟨h1, h2, or_lt x.who n h3 hn, h4, Nat.mod_lt _ (by decide), laterB_lt _ _ h4⟩

theorem after_wait {w3 w5 : World} {Dd X U : Nat} {r : Option Nat} {l : List Dbt} {d : Dbt} {nd : Value} (h : DM w3 Dd r l) (hu : w3.cell? ⟨U, 0, none⟩ = some nd) (hg : w3.grownBy w5 (some X)) (hX : BoxC w5 X 55 (cellsD d)) (hDX : ∀ k, SDM Dd r k → k ≠ X) (hUX : U ≠ X) (hUl : U < w3.heap.size) :
    DM w5 Dd r l ∧ w5.cell? ⟨Dd, 0, none⟩ = some (.map r) ∧ w5.cell? ⟨U, 0, none⟩ = some nd ∧ w5.cell? ⟨X, 0, none⟩ = some (.int .i64 d.node) ∧ w5.cell? ⟨X, 1, none⟩ = some (.int .u64 d.inc) ∧ w5.cell? ⟨X, 2, none⟩ = some (.int .i64 1) ∧
      w5.cell? ⟨X, 3, none⟩ = some (.int .u64 d.who) ∧ w5.cell? ⟨X, 4, none⟩ = some (.int .u64 d.since) ∧ w5.cell? ⟨X, 5, none⟩ = some (.int .u64 d.told) ∧ w5.cell? ⟨X, 6, none⟩ = some (.int .u64 d.til) := by
  have h5 : DM w5 Dd r l := h.fr (Fr.of_grown hg (S := fun k => k = X) (fun k e => by cases e; rfl)) (fun k hk e => hDX k hk e)
  exact ⟨h5, h5.box.cell 0, (World.cell?_of_block (w := w3) (hg.block U hUl (fun e => hUX (by cases e; rfl)))).trans hu, hX.cell 0, hX.cell 1, hX.cell 2, hX.cell 3, hX.cell 4, hX.cell 5, hX.cell 6⟩

set_option maxRecDepth 100000 in
set_option maxHeartbeats 8000000 in
theorem raise_more (w : World) (Dd : Nat) (r : Option Nat) (l : List Dbt) (h : DM w Dd r l) (node : Nat) (inc n : Nat) (now nodes : Int) (base : Nat) (hbase : base < 18446744073709551616) (hnodes : nodes ≤ 9223372036854775807) (hok : okRaise (node : Int) 1 (n : Int) = true) (x : Dbt) (hx : lget l node = some x) (heq : x.inc = inc) (hsince : x.since < 2 ^ 64) (hbit : x.who.testBit n = false) (hwho : x.who < 2 ^ 64) :
    Calls Try.prog 6 #[.pointer (some ⟨Dd, 0, none⟩), .agg #[.int .i64 node, .int .u64 inc, .int .i64 1], .int .i64 n, .int .u64 now, .int .i64 nodes, .float .f64 base] w fun e w' => e = .returned (.tuple #[.bool true, .int .i64 0]) ∧ DM w' Dd r (lput l (more x n base nodes)) ∧ Fr (fun k => some k = r) w w' := by
  obtain ⟨mb, rfl⟩ : ∃ mb, r = some mb := by
    rcases h.map with ⟨rfl, rfl⟩ | ⟨mb, rfl, _⟩
    · cases hx
    · exact ⟨mb, rfl⟩
  have hB0 : Below w.heap.size w (w.alloc (.cells #[.int .i64 node, .int .u64 x.inc, .int .i64 1] 34)) := (Below.refl _ w).alloc (Nat.le_refl _) _
  have bU := BoxC.new w 34 #[.int .i64 node, .int .u64 x.inc, .int .i64 1]
  have hs0 : (w.alloc (.cells #[.int .i64 node, .int .u64 x.inc, .int .i64 1] 34)).heap.size = w.heap.size + 1 := by simp
  simp only [okRaise, Bool.and_eq_true, decide_eq_true_eq] at hok
  obtain ⟨⟨⟨hm, -⟩, hn0⟩, hn1⟩ := hok
  have hm' := Lib.hid hm
  have hall : ∀ w1 : World, Below (w.alloc (.cells #[.int .i64 node, .int .u64 x.inc, .int .i64 1] 34)).heap.size (w.alloc (.cells #[.int .i64 node, .int .u64 x.inc, .int .i64 1] 34)) w1 →
      w1.cell? ⟨w.heap.size, 0, none⟩ = some (.int .i64 node) ∧ w1.cell? ⟨w.heap.size, 1, none⟩ = some (.int .u64 x.inc) ∧ w1.cell? ⟨w.heap.size, 2, none⟩ = some (.int .i64 1) ∧ w1.cell? ⟨Dd, 0, none⟩ = some (.map (some mb)) ∧ DM w1 Dd (some mb) l ∧ Below w.heap.size w w1 ∧ w.heap.size + 1 ≤ w1.heap.size ∧ Dd < w.heap.size :=
    fun w1 hb => by
      have hu := bU.below hb (by rw [hs0]; omega)
      have hD : DM w1 Dd (some mb) l := (h.below hB0 (Nat.le_refl _)).below hb (Nat.le_refl _)
      have := hb.size
      exact ⟨hu.cell 0, hu.cell 1, hu.cell 2, hD.box.cell 0, hD, hB0.trans (hb.mono (by omega)), by omega, h.box.lt⟩
  subst heq
  have hbit' := Lib.hid hbit
  have hnn : n < 64 := by omega
  clear hbit
  clear hm
  go_enter Try.func6, Try.ntmps6
  go_wp2_with (first | (go_at_call 17; refine (may_any node x.inc 1 _).mono ?_; rw [hm'.out]; rintro e w1 ⟨rfl, hB1⟩; obtain ⟨u0, u1, u2, dc, hDM, hBw, hsz1, hDlt⟩ := hall _ hB1; clear hall bU hB0 hs0) | fail)
  have hlk : ∀ wx : World, Below w1.heap.size w1 wx → (Instr.lookup 25 (.map (some mb)) (.int .i64 node) true).run Try.prog wx = .ok (.tuple #[.agg #[.int .i64 x.node, .int .u64 x.inc, .int .i64 1, .int .u64 x.who, .int .u64 x.since, .int .u64 x.told, .int .u64 x.til], .bool true]) wx := fun wx hb => by
    have := lookD (hDM.below hb (Nat.le_refl _)) node
    rw [hx] at this
    exact this
  have kA : ∀ o, Below w1.heap.size w1 (w1.alloc o) := fun o => (Below.refl _ w1).alloc (Nat.le_refl _) o
  have kU : ∀ o i, (w1.alloc o).cell? ⟨w.heap.size, i, none⟩ = w1.cell? ⟨w.heap.size, i, none⟩ := fun o i => (kA o).cell (p := ⟨w.heap.size, i, none⟩) (by show w.heap.size < _; omega)
  have kD : ∀ o, (w1.alloc o).cell? ⟨Dd, 0, none⟩ = w1.cell? ⟨Dd, 0, none⟩ := fun o => (kA o).cell (p := ⟨Dd, 0, none⟩) (by show Dd < _; omega)
  go_region_held3 (fun w' => Below w1.heap.size w1 w' ∧ w'.cell? ⟨Dd, 0, none⟩ = some (.map (some mb)) ∧ w'.cell? ⟨w.heap.size, 0, none⟩ = some (.int .i64 node)) (first | exact ⟨(Below.refl _ _).drew, dc, u0⟩ | exact ⟨(kA _).drew, (kD _).trans dc, (kU _ 0).trans u0⟩ | go_keep) (first | fail)
  all_goals
    have bX := BoxC.new w1 55 (cellsD x)
    have hx1 : (w1.alloc (.cells (cellsD x) 55)).drew.cell? ⟨w1.heap.size, 1, none⟩ = some (.int .u64 x.inc) := bX.cell 1
    have hu1 : (w1.alloc (.cells (cellsD x) 55)).drew.cell? ⟨w.heap.size, 1, none⟩ = some (.int .u64 x.inc) := (kU _ 1).trans u1
    have hB3 : Below w.heap.size w (w1.alloc (.cells (cellsD x) 55)).drew := (hBw.trans ((kA _).mono (by omega))).drew
    have hx3 : (w1.alloc (.cells (cellsD x) 55)).drew.cell? ⟨w1.heap.size, 3, none⟩ = some (.int .u64 x.who) := bX.cell 3
    unfold cellsD at hx1 hu1 hB3 hx3
    clear hlk
    have hx5 : (w1.alloc (.cells (cellsD x) 55)).drew.cell? ⟨w1.heap.size, 5, none⟩ = some (.int .u64 x.told) := bX.cell 5
    have bX' : BoxC (w1.alloc (.cells (cellsD x) 55)).drew w1.heap.size 55 (cellsD x) := bX
    have hf3 := bX'.frozen 3
    have hf5 := bX'.frozen 5
    have hD3 : DM (w1.alloc (.cells (cellsD x) 55)).drew Dd (some mb) l := hDM.below ((kA _).drew) (Nat.le_refl _)
    have hu0 : (w1.alloc (.cells (cellsD x) 55)).drew.cell? ⟨w.heap.size, 0, none⟩ = some (.int .i64 node) := (kU _ 0).trans u0
    have htw : IntKind.u64.wrap ((x.told : Int) + 1) = (((x.told + 1) % 2 ^ 64 : Nat) : Int) := by rw [IntKind.wrap_u64]; omega
    have bX2 : BoxC (w1.alloc (.cells (cellsD { x with who := x.who ||| 2 ^ n, told := (x.told + 1) % 2 ^ 64 }) 55)).drew w1.heap.size 55 (cellsD { x with who := x.who ||| 2 ^ n, told := (x.told + 1) % 2 ^ 64 }) := BoxC.new w1 _ _
    have hwt := dwait_any w1.heap.size { x with who := x.who ||| 2 ^ n, told := (x.told + 1) % 2 ^ 64 } base hbase nodes hnodes hsince _ bX2
    generalize htd : (x.told + 1) % 2 ^ 64 = td at htw hwt bX2
    have HTD := Lib.hid htd
    clear htd
    have hD3' : DM (w1.alloc (.cells (cellsD { x with who := x.who ||| 2 ^ n, told := td }) 55)).drew Dd (some mb) l := hDM.below ((kA _).drew) (Nat.le_refl _)
    have hu0' : (w1.alloc (.cells (cellsD { x with who := x.who ||| 2 ^ n, told := td }) 55)).drew.cell? ⟨w.heap.size, 0, none⟩ = some (.int .i64 node) := (kU _ 0).trans u0
    have hBw3 : Below w.heap.size w (w1.alloc (.cells (cellsD { x with who := x.who ||| 2 ^ n, told := td }) 55)).drew := (hBw.trans ((kA _).mono (by omega))).drew
    have hz3 : (w1.alloc (.cells (cellsD { x with who := x.who ||| 2 ^ n, told := td }) 55)).drew.heap.size = w1.heap.size + 1 := by simp
    unfold cellsD at hx5 hf3 hf5 hD3 hu0
    clear kA kU kD
    have hnil := fun w => run_eql_map_nil (P := Try.prog) w 25 _ _ (some mb) Try.underlying25
    go_wp2_with (first | (go_at_call 18; refine (bhas_any x.who n hwho hnn _).mono ?_; rw [hbit'.out]; rintro e w9 ⟨rfl, rfl⟩) | (go_at_call 19; refine (bwith_any x.who n hwho hnn _).mono ?_; rintro e w9 ⟨rfl, rfl⟩) | (go_at_call 20; refine hwt.mono ?_; rintro e w5 ⟨⟨v5, rfl⟩, hg5, bX5⟩; obtain ⟨hD5, dc5, u5, y0, y1, y2, y3, y4, y5, y6⟩ := after_wait hD3' hu0' hg5 bX5 (fun k hk => by have := hDM.lt k hk; omega) (by omega) (by omega); obtain ⟨o, ho, hmo⟩ := run_update (P := Try.prog) (T := 25) Try.underlying25 Try.underlying3 (w := w5.drew) hD5.map_some node (.agg (cellsD { x with who := x.who ||| 2 ^ n, told := td, til := endB base nodes x.since td })); unfold cellsD at ho))
    go_region
    all_goals
      have hput := after_put (d := more x n base nodes) (o := o) hD5 (ok_more (h.ok x (lget_mem hx)) hnn) (by
        have e0 := lget_node hx
        have e : ((more x n base nodes).node : Int) = node := e0
        rw [e]
        unfold more
        rw [HTD.out]
        exact hmo)
      have hfr := (Fr.of_below (S := fun k => some k = some mb) hBw3 (fun i h1 h2 => absurd h1 (by omega))).trans ((Fr.of_grown hg5 (S := fun k => k = w1.heap.size) (fun k e => by cases e; rfl))) (fun i h1 h2 => absurd h1 (by omega))
      have hfr2 := hfr.trans hput.2 (fun _ _ h => h)
      go_wp2
      go_ret2
      exact ⟨rfl, hput.1, hfr2⟩
end Go.Proofs.Ytilfngegmdedpaa
