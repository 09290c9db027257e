/- The library's insertion sort over the edges of spans: it sorts by the edges' places, as insertion does. -/
import Derived.Test.YtilfngegmdedpaaDoorC
import Derived.Deep.RegionHeld3
import Derived.Deep.QuietTactic
import Derived.BigQuiet
import Derived.BigRegion
set_option linter.unusedVariables false
set_option linter.unusedSimpArgs false
namespace Go.Proofs.YtilfngegmdedpaaDoor
open Go.RowKit Go.Shelf Go.Proofs

structure Edge where
  at_ : Nat
  a : Bool
  i : Bool
  deriving Inhabited

def Edge.cells (e : Edge) : List Value := [.int .u64 e.at_, .bool e.a, .bool e.i]
def flat (l : List Edge) : List Value := l.flatMap Edge.cells
theorem flat_length (l : List Edge) : (flat l).length = l.length * 3 := by
  induction l with
  | nil => rfl
  | cons x l ih =>
    have e : flat (x :: l) = x.cells ++ flat l := rfl
    rw [e, List.length_append, ih]
    simp [Edge.cells]; omega

def cmpAt (x y : Nat) : Int := if x < y then -1 else if y < x then 1 else 0

set_option maxHeartbeats 400000 in
theorem cmp_any (x y : Nat) (a b c d : Bool) (w : World) :
    Calls Tryd.prog 24 #[.agg #[.int .u64 x, .bool a, .bool b], .agg #[.int .u64 y, .bool c, .bool d]] w fun e w' => e = .returned (.int .i64 (cmpAt x y)) ∧ Below w.heap.size w w' := by
  unfold cmpAt
  go_enter Tryd.func24, Tryd.ntmps24
  go_wp2
  all_goals (try go_wp2)
  all_goals go_ret
  · have h : x < y := by omega
    exact ⟨ret_eq (by simp [h]), ((Below.refl _ _).alloc (Nat.le_refl _) _).alloc (by simp) _⟩
  · have h : y < x := by omega
    exact ⟨ret_eq (by simp [h, show ¬ x < y from by omega]), ((Below.refl _ _).alloc (Nat.le_refl _) _).alloc (by simp) _⟩
  · have h : ¬ y < x := by omega
    have h' : ¬ x < y := by omega
    exact ⟨ret_eq (by simp [h, h']), ((Below.refl _ _).alloc (Nat.le_refl _) _).alloc (by simp) _⟩

def E0 : Edge := ⟨0, false, false⟩
theorem flat_at (l : List Edge) (j : Nat) (hj : j < l.length) : (flat l)[j * 3]? = some (.int .u64 (l.getD j E0).at_) ∧ (flat l)[j * 3 + 1]? = some (.bool (l.getD j E0).a) ∧ (flat l)[j * 3 + 2]? = some (.bool (l.getD j E0).i) := by
  induction l generalizing j with
  | nil => simp at hj
  | cons x l ih =>
    have e : flat (x :: l) = x.cells ++ flat l := rfl
    cases j with
    | zero => simp [e, Edge.cells]
    | succ j =>
      have := ih j (by simpa using hj)
      rw [e]
      simp only [Edge.cells, List.cons_append, List.nil_append, List.getD_cons_succ]
      rw [show (j + 1) * 3 = j * 3 + 1 + 1 + 1 from by omega]
      exact this

/-- Places j and j-1 change. -/
def swp (l : List Edge) (j : Nat) : List Edge := (l.set j (l.getD (j - 1) E0)).set (j - 1) (l.getD j E0)
/-- What the inner loop comes to, from place j on. -/
def insD : Nat → List Edge → List Edge
  | 0, l => l
  | j + 1, l => if (l.getD (j + 1) E0).at_ < (l.getD j E0).at_ then insD j (swp l (j + 1)) else l
/-- What the outer loop comes to, behind i places. -/
def insTo : Nat → List Edge → List Edge
  | 0, l => l
  | i + 1, l => insD i (insTo i l)

theorem flat_set (l : List Edge) (j : Nat) (e : Edge) (hj : j < l.length) :
    (((flat l).set (j * 3) (.int .u64 e.at_)).set (j * 3 + 1) (.bool e.a)).set (j * 3 + 2) (.bool e.i) = flat (l.set j e) := by
  induction l generalizing j with
  | nil => simp at hj
  | cons x l ih =>
    have h1 : flat (x :: l) = .int .u64 x.at_ :: .bool x.a :: .bool x.i :: flat l := rfl
    cases j with
    | zero => rw [h1]; rfl
    | succ j =>
      have := ih j (by simpa using hj)
      rw [h1, show (j + 1) * 3 = j * 3 + 1 + 1 + 1 from by omega]
      simp only [List.set_cons_succ]
      rw [this]
      rfl
theorem swp_owns {w : World} {base B c n : Nat} {l : List Edge} {p : Nat} (hp : p + 1 < l.length) {xa ya : Nat} {xb xc yb yc : Bool} (hx : l.getD (p + 1) E0 = ⟨xa, xb, xc⟩) (hy : l.getD p E0 = ⟨ya, yb, yc⟩)
    (h : w.ownsRow base 52 3 (.slice (some ⟨B, 0, none⟩) n c) n (flat l)) :
    ((((((w.setCell ⟨B, (p + 1) * 3, none⟩ (.int .u64 ya)).setCell ⟨B, (p + 1) * 3 + 1, none⟩ (.bool yb)).setCell ⟨B, (p + 1) * 3 + 2, none⟩ (.bool yc)).setCell ⟨B, p * 3, none⟩ (.int .u64 xa)).setCell ⟨B, p * 3 + 1, none⟩ (.bool xb)).setCell ⟨B, p * 3 + 2, none⟩ (.bool xc)).ownsRow base 52 3 (.slice (some ⟨B, 0, none⟩) n c) n (flat (swp l (p + 1))) := by
  have h1 := (World.ownsRow.stored (World.ownsRow.stored (World.ownsRow.stored h ((p + 1) * 3) (.int .u64 ya)).1 ((p + 1) * 3 + 1) (.bool yb)).1 ((p + 1) * 3 + 2) (.bool yc)).1
  rw [show ((((flat l).set ((p + 1) * 3) (.int .u64 ya)).set ((p + 1) * 3 + 1) (.bool yb)).set ((p + 1) * 3 + 2) (.bool yc)) = flat (l.set (p + 1) ⟨ya, yb, yc⟩) from flat_set l (p + 1) ⟨ya, yb, yc⟩ hp] at h1
  have h2 := (World.ownsRow.stored (World.ownsRow.stored (World.ownsRow.stored h1 (p * 3) (.int .u64 xa)).1 (p * 3 + 1) (.bool xb)).1 (p * 3 + 2) (.bool xc)).1
  rw [show ((((flat (l.set (p + 1) ⟨ya, yb, yc⟩)).set (p * 3) (.int .u64 xa)).set (p * 3 + 1) (.bool xb)).set (p * 3 + 2) (.bool xc)) = flat ((l.set (p + 1) ⟨ya, yb, yc⟩).set p ⟨xa, xb, xc⟩) from flat_set _ p ⟨xa, xb, xc⟩ (by simp; omega)] at h2
  unfold swp
  rw [hx, Nat.add_sub_cancel, hy]
  exact h2
theorem setCell_gb (w : World) (a : Addr) (v : Value) : w.grownBy (w.setCell a v) (some a.block) :=
  ⟨rfl, rfl, rfl, by simp [World.setCell], fun k _ hk => Below.heap_setCell _ _ _ _ (fun e => hk (by rw [e]))⟩
theorem swp_length (l : List Edge) (j : Nat) : (swp l j).length = l.length := by simp [swp]
theorem gb_refl (w : World) (r : Option Nat) : w.grownBy w r := ⟨rfl, rfl, rfl, Nat.le_refl _, fun _ _ _ => rfl⟩
theorem drewN_gb (w : World) (n : Nat) (r : Option Nat) : w.grownBy (w.drewN n) r := ⟨rfl, rfl, rfl, Nat.le_refl _, fun _ _ _ => rfl⟩
theorem gb_trans {w1 w2 w3 : World} {r : Option Nat} (h : w1.grownBy w2 r) (k : w2.grownBy w3 r) : w1.grownBy w3 r :=
  ⟨k.os.trans h.os, k.tape.trans h.tape, k.output.trans h.output, Nat.le_trans h.size k.size, fun i hi hr => (k.block i (Nat.lt_of_lt_of_le hi h.size) hr).trans (h.block i hi hr)⟩
theorem gb_below {w w' : World} (h : Below w.heap.size w w') (r : Option Nat) : w.grownBy w' r := ⟨h.os, h.tape, h.output, h.size, fun k hk _ => h.block k hk⟩
theorem swp_gb {w0 w : World} {B p : Nat} {u1 u2 u3 u4 u5 u6 : Value} (h : w0.grownBy w (some B)) :
    w0.grownBy ((((((w.setCell ⟨B, (p + 1) * 3, none⟩ u1).setCell ⟨B, (p + 1) * 3 + 1, none⟩ u2).setCell ⟨B, (p + 1) * 3 + 2, none⟩ u3).setCell ⟨B, p * 3, none⟩ u4).setCell ⟨B, p * 3 + 1, none⟩ u5).setCell ⟨B, p * 3 + 2, none⟩ u6).drew (some B) :=
  gb_trans (gb_trans (gb_trans (gb_trans (gb_trans (gb_trans (gb_trans h (setCell_gb _ _ _)) (setCell_gb _ _ _)) (setCell_gb _ _ _)) (setCell_gb _ _ _)) (setCell_gb _ _ _)) (setCell_gb _ _ _)) (drewN_gb _ 1 _)
theorem insD_length (j : Nat) : ∀ l : List Edge, (insD j l).length = l.length := by
  induction j with
  | zero => intro l; rfl
  | succ j ih =>
    intro l
    unfold insD
    split
    · rw [ih]; simp [swp]
    · rfl
theorem insTo_length (k : Nat) (l : List Edge) : (insTo k l).length = l.length := by
  induction k with
  | zero => rfl
  | succ k ih => simp [insTo, insD_length, ih]
theorem insD_stop (p : Nat) (l : List Edge) (h : ¬ (l.getD (p + 1) E0).at_ < (l.getD p E0).at_) : insD (p + 1) l = l := by simp only [insD]; rw [if_neg h]
theorem insD_go (p : Nat) (l : List Edge) (h : (l.getD (p + 1) E0).at_ < (l.getD p E0).at_) : insD (p + 1) l = insD p (swp l (p + 1)) := by simp only [insD]; rw [if_pos h]

theorem cmp_keep (x y : Nat) (a b c d : Bool) (w w0 : World) {p1 p2 p3 p4 p5 p6 : Addr} {v1 v2 v3 v4 v5 v6 : Value} (h1 : w.cell? p1 = some v1) (h2 : w.cell? p2 = some v2) (h3 : w.cell? p3 = some v3)
    (h4 : w.cell? p4 = some v4) (h5 : w.cell? p5 = some v5) (h6 : w.cell? p6 = some v6) (h7 : Below w0.heap.size w0 w) :
    Calls Tryd.prog 24 #[.agg #[.int .u64 x, .bool a, .bool b], .agg #[.int .u64 y, .bool c, .bool d]] w fun e w' => e = .returned (.int .i64 (cmpAt x y)) ∧
      w'.cell? p1 = some v1 ∧ w'.cell? p2 = some v2 ∧ w'.cell? p3 = some v3 ∧ w'.cell? p4 = some v4 ∧ w'.cell? p5 = some v5 ∧ w'.cell? p6 = some v6 ∧ Below w0.heap.size w0 w' :=
  (cmp_any x y a b c d w).mono fun e w' ⟨he, hb⟩ =>
    ⟨he, (hb.cell (World.block_lt_of_cell? w _ h1)).trans h1, (hb.cell (World.block_lt_of_cell? w _ h2)).trans h2, (hb.cell (World.block_lt_of_cell? w _ h3)).trans h3, (hb.cell (World.block_lt_of_cell? w _ h4)).trans h4,
      (hb.cell (World.block_lt_of_cell? w _ h5)).trans h5, (hb.cell (World.block_lt_of_cell? w _ h6)).trans h6, h7.trans (hb.mono h7.size)⟩

set_option maxRecDepth 100000 in
set_option maxHeartbeats 4000000 in
theorem ins_any (B c : Nat) (l : List Edge) (base : Nat) (hn : l.length < 1000) (hn0 : 0 < l.length) (w : World) (h : w.ownsRow base 52 3 (.slice (some ⟨B, 0, none⟩) l.length c) l.length (flat l)) :
    Calls Tryd.prog 26 #[.slice (some ⟨B, 0, none⟩) l.length c, .int .i64 0, .int .i64 l.length, .func (.func 24) #[] #[]] w fun e w' => e = .returned (.tuple #[]) ∧
      w'.ownsRow base 52 3 (.slice (some ⟨B, 0, none⟩) l.length c) l.length (flat (insTo l.length l)) ∧ w.grownBy w' (some B) := by
  go_enter Tryd.func26, Tryd.ntmps26
  go_wp2
  go_loopw [8] (fun i wr => ∃ k : Nat, 1 ≤ k ∧ k ≤ l.length ∧ i = .int .i64 k ∧ wr.ownsRow base 52 3 (.slice (some ⟨B, 0, none⟩) l.length c) l.length (flat (insTo k l)) ∧ w.grownBy wr (some B)) (fun i _ => l.length - (intOf i).toNat)
  case atStart => exact ⟨1, by omega, by omega, rfl, h, gb_refl _ _⟩
  case round =>
    obtain ⟨k, hk1, hk, rfl, hown, hgr⟩ := hrel
    by_cases hlt : k < l.length
    · go_wp2
      obtain ⟨wo, rfl⟩ : ∃ wo : World, wo = wr := ⟨_, rfl⟩
      go_loopw [9] (fun j wr => ∃ (q : Nat) (l' : List Edge), q ≤ k ∧ j = .int .i64 q ∧ l'.length = l.length ∧ Hid (insD q l' = insTo (k + 1) l) ∧ wr.ownsRow base 52 3 (.slice (some ⟨B, 0, none⟩) l.length c) l.length (flat l') ∧ w.grownBy wr (some B)) (fun i _ => (intOf i).toNat)
      case atStart => exact ⟨k, insTo k l, Nat.le_refl _, rfl, insTo_length k l, Lib.hid rfl, hown, hgr⟩
      case round =>
        clear hown hgr
        obtain ⟨q, l', hq, rfl, hl', HD, hown, hgr⟩ := hrel
        cases q with
        | zero =>
          have hd : decide ((0 : Int) < ((0 : Nat) : Int)) = false := by simp
          go_wp2_with fail
          go_quiet (fail)
          go_wp2
          go_roundw
          case rel => exact ⟨k + 1, by omega, by omega, by go_num, by rw [← HD.out]; exact hown, gb_trans hgr (drewN_gb _ _ _)⟩
          case measure => simp [intOf]; omega
        | succ p =>
          have hlp : p + 1 < l'.length := by omega
          obtain ⟨x1, x2, x3⟩ := flat_at l' (p + 1) hlp
          obtain ⟨y1, y2, y3⟩ := flat_at l' p (by omega)
          have hc := fun j hj => World.ownsRow.cellAt hown j hj
          rw [← hc _ (by omega)] at x1 x2 x3 y1 y2 y3
          clear hc
          generalize hx : l'.getD (p + 1) E0 = x at *
          generalize hy : l'.getD p E0 = y at *
          obtain ⟨xa, xb, xc⟩ := x
          obtain ⟨ya, yb, yc⟩ := y
          have HX := Lib.hid hx
          have HY := Lib.hid hy
          clear hx hy
          dsimp only at x1 x2 x3 y1 y2 y3
          have hd : decide ((0 : Int) < ((p + 1 : Nat) : Int)) = true := by simp only [decide_eq_true_eq]; omega
          have hs1 : IntKind.i64.wrap (((p + 1 : Nat) : Int) - 1) = (p : Int) := by rw [IntWalk.i64_in _ (by omega)]; omega
          have hi3 : (0 : Int) ≤ (p : Int) := by omega
          have hs2 : IntKind.i64.wrap ((p : Int) + 1 - 1) = (p : Int) := by rw [IntWalk.i64_in _ (by omega)]; omega
          have hs3 : IntKind.i64.wrap (p : Int) = (p : Int) := by rw [IntWalk.i64_in _ (by omega)]
          have hi5 : (0 : Int) ≤ (p : Int) + 1 := by omega
          have hi6 : (p : Int) + 1 < (l.length : Int) := by omega
          have hbl0 : Below wr.heap.size wr wr := Below.refl _ _
          have hi4 : (p : Int) < (l.length : Int) := by omega
          have hi1 : (0 : Int) ≤ ((p + 1 : Nat) : Int) := by omega
          have hi2 : ((p + 1 : Nat) : Int) < (l.length : Int) := by omega
          by_cases hxy : xa < ya
          · have hcm : decide (cmpAt xa ya < 0) = true := by simp [cmpAt, hxy]
            go_wp2_with fail
            go_region_held3 (fun w' => w'.cell? ⟨B, (p + 1) * 3, none⟩ = some (.int .u64 xa) ∧ w'.cell? ⟨B, (p + 1) * 3 + 1, none⟩ = some (.bool xb) ∧ w'.cell? ⟨B, (p + 1) * 3 + 2, none⟩ = some (.bool xc) ∧ w'.cell? ⟨B, p * 3, none⟩ = some (.int .u64 ya) ∧ w'.cell? ⟨B, p * 3 + 1, none⟩ = some (.bool yb) ∧ w'.cell? ⟨B, p * 3 + 2, none⟩ = some (.bool yc) ∧ Below wr.heap.size wr w') (first | exact ⟨k1, k2, k3, k4, k5, k6, k7⟩ | exact ⟨x1, x2, x3, y1, y2, y3, (Below.refl _ _).drew⟩ | go_keep) (first | (go_at_call 24; refine (cmp_keep xa ya xb xc yb yc _ wr (p1 := ⟨B, (p + 1) * 3, none⟩) (p2 := ⟨B, (p + 1) * 3 + 1, none⟩) (p3 := ⟨B, (p + 1) * 3 + 2, none⟩) (p4 := ⟨B, p * 3, none⟩) (p5 := ⟨B, p * 3 + 1, none⟩) (p6 := ⟨B, p * 3 + 2, none⟩) (by first | assumption | exact x1) (by first | assumption | exact x2) (by first | assumption | exact x3) (by first | assumption | exact y1) (by first | assumption | exact y2) (by first | assumption | exact y3) (by first | assumption | exact (Below.refl _ _).drew)).mono ?_; rintro e w' ⟨rfl, k1, k2, k3, k4, k5, k6, k7⟩))
            have hown2 := hown.kept (gb_below k7 none) (.inr (by simp [Value.ownBlock]))
            have f1 := World.ownsRow.frozenAt hown2 ((p + 1) * 3)
            have f2 := World.ownsRow.frozenAt hown2 ((p + 1) * 3 + 1)
            have f3 := World.ownsRow.frozenAt hown2 ((p + 1) * 3 + 2)
            have f4 := World.ownsRow.frozenAt hown2 (p * 3)
            have f5 := World.ownsRow.frozenAt hown2 (p * 3 + 1)
            have f6 := World.ownsRow.frozenAt hown2 (p * 3 + 2)
            go_wp2
            go_region
            go_wp2
            go_roundw
            case rel => exact ⟨p, swp l' (p + 1), by omega, by go_num, by rw [swp_length]; exact hl', Lib.hid (by rw [← HD.out, insD_go p l' (by rw [HX.out, HY.out]; exact hxy)]), World.ownsRow.drew (swp_owns hlp HX.out HY.out hown2), swp_gb (gb_trans hgr (gb_below k7 (some B)))⟩
            case measure => simp [intOf]
          · have hcm : decide (cmpAt xa ya < 0) = false := by
              unfold cmpAt
              rw [if_neg hxy]
              split <;> simp
            go_wp2_with fail
            go_region_held3 (fun w' => w'.cell? ⟨B, (p + 1) * 3, none⟩ = some (.int .u64 xa) ∧ w'.cell? ⟨B, (p + 1) * 3 + 1, none⟩ = some (.bool xb) ∧ w'.cell? ⟨B, (p + 1) * 3 + 2, none⟩ = some (.bool xc) ∧ w'.cell? ⟨B, p * 3, none⟩ = some (.int .u64 ya) ∧ w'.cell? ⟨B, p * 3 + 1, none⟩ = some (.bool yb) ∧ w'.cell? ⟨B, p * 3 + 2, none⟩ = some (.bool yc) ∧ Below wr.heap.size wr w') (first | exact ⟨k1, k2, k3, k4, k5, k6, k7⟩ | exact ⟨x1, x2, x3, y1, y2, y3, (Below.refl _ _).drew⟩ | go_keep) (first | (go_at_call 24; refine (cmp_keep xa ya xb xc yb yc _ wr (p1 := ⟨B, (p + 1) * 3, none⟩) (p2 := ⟨B, (p + 1) * 3 + 1, none⟩) (p3 := ⟨B, (p + 1) * 3 + 2, none⟩) (p4 := ⟨B, p * 3, none⟩) (p5 := ⟨B, p * 3 + 1, none⟩) (p6 := ⟨B, p * 3 + 2, none⟩) (by first | assumption | exact x1) (by first | assumption | exact x2) (by first | assumption | exact x3) (by first | assumption | exact y1) (by first | assumption | exact y2) (by first | assumption | exact y3) (by first | assumption | exact (Below.refl _ _).drew)).mono ?_; rintro e w' ⟨rfl, k1, k2, k3, k4, k5, k6, k7⟩))
            have hown2 := hown.kept (gb_below k7 none) (.inr (by simp [Value.ownBlock]))
            go_wp2
            go_roundw
            case rel => exact ⟨k + 1, by omega, by omega, by go_num, by rw [← HD.out, insD_stop p l' (by rw [HX.out, HY.out]; exact hxy)]; exact hown2, gb_trans hgr (gb_below k7 _)⟩
            case measure => simp [intOf]; omega
    · obtain rfl : k = l.length := by omega
      go_wp2
      go_end0
      exact ⟨rfl, hown, hgr⟩
end Go.Proofs.YtilfngegmdedpaaDoor
