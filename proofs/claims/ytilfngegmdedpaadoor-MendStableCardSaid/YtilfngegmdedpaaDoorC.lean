/- What is stable: the program's Stable and the document's. -/
import Derived.Test.YtilfngegmdedpaaDoorB
import Derived.Test.YtilfngegmdedpaaDoorI
set_option linter.unusedVariables false
set_option linter.unusedSimpArgs false
namespace Go.Proofs.YtilfngegmdedpaaDoor
open Go.RowKit Go.Shelf Go.Proofs

/-- The least of some numbers; 0 of none. -/
def minL : List Nat → Nat
  | [] => 0
  | x :: xs => xs.foldl min x
theorem minL_snoc (xs : List Nat) (x : Nat) : minL (xs ++ [x]) = if xs = [] then x else min (minL xs) x := by
  cases xs with
  | nil => rfl
  | cons y ys => simp [minL, List.foldl_append]

def upTo (g : Nat → Option Nat) (l : List Nat) (i : Nat) : Nat := minL ((l.take i).map fun n => (g n).getD 0)
theorem upTo_succ (g : Nat → Option Nat) (l : List Nat) (i : Nat) (hi : i < l.length) (x : Nat) (hx : g (l.getD i 0) = some x) : upTo g l (i + 1) = if i = 0 then x else min (upTo g l i) x := by
  have e : l.getD i 0 = l[i] := by simp [List.getD_eq_getElem?_getD, List.getElem?_eq_getElem hi]
  unfold upTo
  rw [List.take_succ_eq_append_getElem hi, List.map_append, List.map_cons, List.map_nil, minL_snoc, ← e, hx]
  by_cases h0 : i = 0
  · simp [h0]
  · have : (l.take i).map (fun n => (g n).getD 0) ≠ [] := by
      intro h
      have := congrArg List.length h
      simp only [List.length_map, List.length_take, List.length_nil] at this
      omega
    rw [if_neg this, if_neg h0]
    rfl

/-- What is stable. -/
def stab (g : Nat → Option Nat) (l : List Nat) : Nat := if l.all (fun n => (g n).isSome) then upTo g l l.length else 0
theorem stab_none (g : Nat → Option Nat) (l : List Nat) (i : Nat) (hi : i < l.length) (h : g (l.getD i 0) = none) : stab g l = 0 := by
  have e : l.getD i 0 = l[i] := by simp [List.getD_eq_getElem?_getD, List.getElem?_eq_getElem hi]
  unfold stab
  rw [if_neg]
  intro h2
  rw [List.all_eq_true] at h2
  have := h2 l[i] (List.getElem_mem hi)
  rw [← e, h] at this
  simp at this
theorem stab_all (g : Nat → Option Nat) (l : List Nat) (h : ∀ i, i < l.length → g (l.getD i 0) ≠ none) : stab g l = upTo g l l.length := by
  unfold stab
  rw [if_pos]
  rw [List.all_eq_true]
  intro x hx
  obtain ⟨i, hi, rfl⟩ := List.mem_iff_getElem.1 hx
  have := h i hi
  have e : l.getD i 0 = l[i] := by simp [List.getD_eq_getElem?_getD, List.getElem?_eq_getElem hi]
  rw [e] at this
  cases hg : g l[i] with
  | none => exact absurd hg this
  | some x => rfl

/-- The map that a call reads: what it says of each node. -/
def Reach (m : List (Int × Value)) (g : Nat → Option Nat) : Prop := ∀ n : Nat, mget m n = (g n).map fun x => Value.int .u64 x

theorem zero22 (w : World) : (zeroValue 22).run Tryd.prog w = .ok (.int .u64 0) w := by kernel_rfl

set_option maxHeartbeats 400000 in
theorem less_yes (n x : Int) (B : Nat) (w : World) :
    Calls Tryd.prog 10 #[.int .u64 n, .bool true, .pointer (some ⟨B, 0, none⟩)] w fun e w' => e = .returned (.int .u64 n) ∧ w = w' := by
  go_enter Tryd.func10, Tryd.ntmps10
  go_wp2
  go_ret
  exact ⟨rfl, rfl⟩

set_option maxHeartbeats 400000 in
theorem less_no (n x : Nat) (B : Nat) (w : World) (hc : w.cell? ⟨B, 0, none⟩ = some (.int .u64 x)) :
    Calls Tryd.prog 10 #[.int .u64 n, .bool false, .pointer (some ⟨B, 0, none⟩)] w fun e w' => e = .returned (.int .u64 (min x n : Nat)) ∧ w = w' := by
  go_enter Tryd.func10, Tryd.ntmps10
  go_wp2
  all_goals go_ret
  · have h : n < x := by omega
    exact ⟨ret_eq (by rw [Nat.min_eq_right (by omega)]; rfl), rfl⟩
  · have h : ¬ n < x := by omega
    exact ⟨ret_eq (by rw [Nat.min_eq_left (by omega)]; rfl), rfl⟩

theorem owns_at {w : World} {base n c : Nat} {e : TypeId} {A : Option Addr} {l : List Nat} (h : w.ownsRow base e 1 (.slice A n c) l.length (l.map enc)) (i : Nat) (hi : i < l.length) :
    ∃ a, A = some ⟨a, 0, none⟩ ∧ w.cell? ⟨a, i, none⟩ = some (.int .i64 (l.getD i 0 : Nat)) := by
  rcases h.2 with ⟨_, h0⟩ | ⟨a, cap, cur, hv, _⟩
  · omega
  · cases hv
    have := World.ownsRow.cells h (g := a) rfl i (enc (l.getD i 0)) (by simp [List.getElem?_eq_getElem hi, List.getD_eq_getElem?_getD])
    have e : (⟨a, 0, none⟩ : Addr).add i = ⟨a, i, none⟩ := by unfold Addr.add; split <;> simp_all
    exact ⟨a, rfl, by rw [← e]; exact this⟩

set_option maxRecDepth 100000 in
set_option maxHeartbeats 1000000 in
theorem stable_any (b : Nat) (hb : b < 2 ^ 64) (mb : Nat) (m : List (Int × Value)) (g : Nat → Option Nat) (w : World) (hT : Tab w) (hm : IntMap w mb m) (hg : Reach m g) :
    Calls Tryd.prog 5 #[.int .u64 b, .map (some mb)] w fun e w' => e = .returned (.int .u64 (stab g (bandL b))) ∧ Below w.heap.size w w' := by
  have hmb := hm.lt
  have hT1 : Tab (w.alloc (.cells #[.int .u64 0] 22)) := hT.below ((Below.refl _ _).alloc (Nat.le_refl _) _)
  have hlen := bandL_length b
  have hfin0 := Lib.hid (stab_all g (bandL b))
  go_enter Tryd.func5, Tryd.ntmps5
  go_wp2_with (go_at_call 11; refine (callsIn_wide.1 (bandList_in b hb _ hT1)).mono ?_; rintro e w1 ⟨v, rfl, hown, hB1⟩; obtain ⟨A, c, rfl⟩ := owns_form hown)
  have hbx : Boxed w1 w.heap.size 22 (.int .u64 0) := (hB1.block _ (by simp)).trans (Boxed.new w 22 _)
  have hm1 : IntMap w1 mb m := (hm.alloc _).below hB1 (by simp; omega)
  have hBw : Below w.heap.size w w1 := ((Below.refl _ _).alloc (Nat.le_refl _) _).trans (hB1.mono (by simp))
  rw [World.size_alloc] at hown
  clear hT1 hB1
  generalize hL : bandL b = L at *
  have HL := Lib.hid hL
  clear hL
  go_loopw [14] (fun i wr => ∃ k : Nat, k ≤ L.length ∧ i = .int .i64 k ∧ Boxed wr w.heap.size 22 (.int .u64 (upTo g L k)) ∧ IntMap wr mb m ∧ wr.ownsRow (w.heap.size + 1) 3 1 (.slice A L.length c) L.length (L.map enc) ∧ Below w.heap.size w wr ∧ Hid (∀ j, j < k → g (L.getD j 0) ≠ none)) (fun i _ => L.length - (intOf i).toNat)
  case atStart => exact ⟨0, Nat.zero_le _, rfl, hbx, hm1, hown, hBw, Lib.hid (fun j hj => absurd hj (by omega))⟩
  case round =>
    clear hbx hm1 hown hBw
    obtain ⟨k, hk, rfl, hbx, hm1, hown, hBw, hall⟩ := hrel
    have hc := hbx.cell
    have hf := hbx.frozen
    by_cases hlt : k < L.length
    · obtain ⟨a, rfl, hcell⟩ := owns_at hown k hlt
      generalize hx : L.getD k 0 = x at *
      have hlk := run_lookup (P := Tryd.prog) Tryd.underlying26 Tryd.underlying3 (zero22 wr) hm1 (x : Nat) true
      rw [hg] at hlk
      have HX := Lib.hid hx
      clear hx
      cases hgk : g x with
      | none =>
        rw [hgk] at hlk
        simp at hlk
        have HS := Lib.hid (stab_none g L k hlt (by rw [HX.out]; exact hgk))
        clear hgk
        go_wp2
        refine bodyPost_ret (v := .int .u64 0) (by simp [results, Tryd.results5, go_sem, hc]) rfl ⟨ret_eq (by rw [HL.out, HS.out]; rfl), hBw.setCell (Nat.le_refl _) _⟩
      | some y =>
        rw [hgk] at hlk
        simp at hlk
        have HU := Lib.hid (upTo_succ g L k hlt y (by rw [HX.out]; exact hgk))
        have HA : Hid (∀ j, j < k + 1 → g (L.getD j 0) ≠ none) := Lib.hid (fun j hj => by
          by_cases e : j = k
          · subst e; rw [HX.out, hgk]; simp
          · exact hall.out j (by omega))
        clear hgk hall
        by_cases h0 : k = 0
        · subst h0
          go_wp2_with (go_at_call 10; refine (less_yes _ 0 _ _).mono ?_; rintro e w2 ⟨rfl, rfl⟩)
          go_roundw
          case rel => exact ⟨0 + 1, by omega, by go_num, by rw [HU.out, if_pos trivial]; exact hbx.set _, hm1.setCell _ _, ownsRow_setCell_below hown (by show w.heap.size < w.heap.size + 1; omega) _, hBw.setCell (Nat.le_refl _) _, HA⟩
          case measure => simp [intOf]; omega
        · have h0' : ((k : Int) == 0) = false := by simp; omega
          go_wp2_with (go_at_call 10; refine (less_no _ _ _ _ hc).mono ?_; rintro e w2 ⟨rfl, rfl⟩)
          go_roundw
          case rel => exact ⟨k + 1, by omega, by go_num, by rw [HU.out, if_neg h0]; exact hbx.set _, hm1.setCell _ _, ownsRow_setCell_below hown (by show w.heap.size < w.heap.size + 1; omega) _, hBw.setCell (Nat.le_refl _) _, HA⟩
          case measure => simp [intOf]; omega
    · obtain rfl : k = L.length := by omega
      go_wp2
      have hfin := hfin0.out hall.out
      refine bodyPost_ret (v := .int .u64 (upTo g L L.length : Nat)) (by simp [results, Tryd.results5, go_sem, hc]) rfl ⟨ret_eq (by rw [HL.out, hfin]), hBw.setCell (Nat.le_refl _) _⟩

set_option maxRecDepth 100000 in
set_option maxHeartbeats 1000000 in
theorem refStable_any (b : Nat) (hb : b < 2 ^ 64) (mb : Nat) (m : List (Int × Value)) (g : Nat → Option Nat) (w : World) (hm : IntMap w mb m) (hg : Reach m g) :
    Calls Tryd.prog 7 #[.int .u64 b, .map (some mb)] w fun e w' => e = .returned (.int .u64 (stab g (bandL b))) ∧ Below w.heap.size w w' := by
  have hlen := bandL_length b
  have hfin0 := Lib.hid (stab_all g (bandL b))
  go_enter Tryd.func7, Tryd.ntmps7
  go_wp2_with (go_at_call 6; refine (refList_any b hb _).mono ?_; rintro e w1 ⟨v, rfl, hown, hBw⟩; obtain ⟨A, c, rfl⟩ := owns_form hown)
  have hm1 : IntMap w1 mb m := hm.below hBw hm.lt
  generalize hL : bandL b = L at *
  have HL := Lib.hid hL
  clear hL
  go_loop [6, 7] (fun t i => ∃ k : Nat, k ≤ L.length ∧ i = .int .i64 k ∧ t = .int .u64 (upTo g L k) ∧ Hid (∀ j, j < k → g (L.getD j 0) ≠ none)) (fun _ i => L.length - (intOf i).toNat)
  case atStart => exact ⟨0, Nat.zero_le _, rfl, rfl, Lib.hid (fun j hj => absurd hj (by omega))⟩
  case round =>
    obtain ⟨k, hk, rfl, rfl, hall⟩ := hrel
    by_cases hlt : k < L.length
    · obtain ⟨a, rfl, hcell⟩ := owns_at hown k hlt
      generalize hx : L.getD k 0 = x at *
      have hlk := run_lookup (P := Tryd.prog) Tryd.underlying26 Tryd.underlying3 (zero22 w1) hm1 (x : Nat) true
      rw [hg] at hlk
      have HX := Lib.hid hx
      clear hx
      cases hgk : g x with
      | none =>
        rw [hgk] at hlk
        simp at hlk
        have HS := Lib.hid (stab_none g L k hlt (by rw [HX.out]; exact hgk))
        clear hgk
        go_wp2
        go_ret
        exact ⟨ret_eq (by rw [HL.out, HS.out]; rfl), hBw⟩
      | some y =>
        rw [hgk] at hlk
        simp at hlk
        have HU := Lib.hid (upTo_succ g L k hlt y (by rw [HX.out]; exact hgk))
        have HA : Hid (∀ j, j < k + 1 → g (L.getD j 0) ≠ none) := Lib.hid (fun j hj => by
          by_cases e : j = k
          · subst e; rw [HX.out, hgk]; simp
          · exact hall.out j (by omega))
        clear hgk hall
        by_cases h0 : k = 0
        · subst h0
          go_wp2
          go_round
          case rel => exact ⟨0 + 1, by omega, by go_num, by rw [HU.out]; simp, HA⟩
          case measure => simp [intOf]; omega
        · have h0' : ((k : Int) == 0) = false := by simp; omega
          by_cases hy : y < upTo g L k
          · go_wp2
            go_round
            case rel => exact ⟨k + 1, by omega, by go_num, by rw [HU.out, if_neg h0, Nat.min_eq_right (by omega)], HA⟩
            case measure => simp [intOf]; omega
          · go_wp2
            go_round
            case rel => exact ⟨k + 1, by omega, by go_num, by rw [HU.out, if_neg h0, Nat.min_eq_left (by omega)], HA⟩
            case measure => simp [intOf]; omega
    · obtain rfl : k = L.length := by omega
      have HF := Lib.hid (hfin0.out hall.out)
      go_wp2
      go_ret
      exact ⟨ret_eq (by rw [HL.out, HF.out]; rfl), hBw⟩
end Go.Proofs.YtilfngegmdedpaaDoor
