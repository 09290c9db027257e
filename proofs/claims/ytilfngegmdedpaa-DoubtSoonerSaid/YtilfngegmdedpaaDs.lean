/- Doubts of the document: All, Drop. -/
import Derived.Test.YtilfngegmdedpaaDr
set_option linter.unusedVariables false
set_option linter.unusedSimpArgs false
namespace Go.Proofs.Ytilfngegmdedpaa
open Go.RowKit Go.Shelf Go.Proofs
attribute [local go_sem] Oper.semAt_some

def ofNode (l : List Dbt) (n : Nat) : List Dbt := l.filter fun d => d.node == n
theorem ofNode_lget (l : List Dbt) (hu : Uniq l) (n : Nat) : ofNode l n = (lget l (n : Int)).toList := by
  induction l with
  | nil => rfl
  | cons x l ih =>
    have hc : x.node ∉ l.map (·.node) ∧ (l.map (·.node)).Nodup := List.nodup_cons.1 hu
    unfold ofNode lget at *
    rw [List.filter_cons, List.find?_cons]
    by_cases hx : x.node = n
    · have h1 : (x.node == n) = true := by simp [hx]
      have h2 : ((x.node : Int) == (n : Int)) = true := by simp [hx]
      rw [h1, h2]
      have : l.filter (fun d => d.node == n) = [] := by
        rw [List.filter_eq_nil_iff]
        intro y hy
        have : y.node ≠ x.node := fun e => hc.1 (by rw [← e]; exact List.mem_map.2 ⟨y, hy, rfl⟩)
        simp; omega
      simp [this]
    · have h1 : (x.node == n) = false := by simp [hx]
      have h2 : ((x.node : Int) == (n : Int)) = false := by simp; omega
      rw [h1, h2]
      simpa using ih hc.2
theorem ofNode_take (l : List Dbt) (hu : Uniq l) (n i : Nat) : (ofNode (l.take i) n).length ≤ 1 := by
  have h1 : Uniq (l.take i) := List.Nodup.sublist (List.Sublist.map _ (List.take_sublist i l)) hu
  rw [ofNode_lget _ h1]
  cases lget (l.take i) (n : Int) <;> simp
/-- The doubts of the first n nodes, and of the next node those among the first i. -/
def rowsTo (l : List Dbt) (n i : Nat) : List Dbt := (List.range n).flatMap (ofNode l) ++ ofNode (l.take i) n
theorem rowsTo_len (l : List Dbt) (hu : Uniq l) (n i : Nat) : (rowsTo l n i).length ≤ n + 1 := by
  unfold rowsTo
  rw [List.length_append]
  have h1 := ofNode_take l hu n i
  have h2 : ∀ n, ((List.range n).flatMap (ofNode l)).length ≤ n := by
    intro n
    induction n with
    | zero => simp
    | succ n ih =>
      rw [List.range_succ, List.flatMap_append, List.length_append]
      have := ofNode_take l hu n l.length
      rw [List.take_length] at this
      rw [List.flatMap_singleton]
      omega
  have := h2 n
  omega
theorem rowsTo_yes (l : List Dbt) (n i : Nat) (d : Dbt) (hd : l[i]? = some d) (h : d.node = n) : rowsTo l n (i + 1) = rowsTo l n i ++ [d] := by
  unfold rowsTo ofNode
  rw [List.take_add_one, hd]
  simp [List.filter_append, h]
theorem rowsTo_no (l : List Dbt) (n i : Nat) (d : Dbt) (hd : l[i]? = some d) (h : d.node ≠ n) : rowsTo l n (i + 1) = rowsTo l n i := by
  unfold rowsTo ofNode
  rw [List.take_add_one, hd]
  simp [List.filter_append, h]
theorem rowsTo_next (l : List Dbt) (n : Nat) : rowsTo l n l.length = rowsTo l (n + 1) 0 := by
  unfold rowsTo
  rw [List.take_length, List.range_succ, List.flatMap_append]
  simp [ofNode]
theorem rowsTo_zero (l : List Dbt) : rowsTo l 0 0 = [] := by simp [rowsTo, ofNode]
theorem rowsTo_all (l : List Dbt) (hu : Uniq l) : rowsTo l 64 0 = lall l := by
  unfold rowsTo lall
  simp only [List.take_zero, ofNode, List.filter_nil, List.append_nil]
  have : ∀ r : List Nat, (r.flatMap fun n => l.filter fun d => d.node == n) = r.filterMap fun n : Nat => lget l (n : Int) := by
    intro r
    induction r with
    | nil => rfl
    | cons n r ih =>
      rw [List.flatMap_cons, ih]
      have := ofNode_lget l hu n
      unfold ofNode at this
      rw [this]
      cases h : lget l (n : Int) <;> simp [h]
  exact this _
theorem lall_len (l : List Dbt) : (lall l).length ≤ 64 := by
  unfold lall
  exact Nat.le_trans (List.length_filterMap_le _ _) (by simp)

set_option maxRecDepth 100000 in
set_option maxHeartbeats 8000000 in
theorem rall_any (w : World) (Rr : Nat) (v : Value) (l : List Dbt) (h : RM w Rr v l) :
    Calls Try.prog 16 #[.pointer (some ⟨Rr, 0, none⟩)] w fun e w' => ∃ v', e = .returned v' ∧ w'.ownsRow w.heap.size 62 7 v' (lall l).length (flatD (lall l)) ∧ Below w.heap.size w w' := by
  obtain ⟨j0, hj, hy0, hy1, hy2⟩ := info_parts infoR
  obtain ⟨A, c, rfl⟩ := rowForm h.row
  have hlen := h.len
  have hlt := h.lt
  have hcell : ∀ wx, Below w.heap.size w wx → RM wx Rr (.slice A l.length c) l ∧ wx.cell? ⟨Rr, 0, none⟩ = some (.slice A l.length c) := fun wx hb => ⟨h.below hb (Nat.le_refl _), (h.below hb (Nat.le_refl _)).box.cell 0⟩
  have hfin := Lib.hid (rowsTo_all l h.uniq)
  have hzero := Lib.hid (rowsTo_zero l)
  have hRl := Lib.hid (rowsTo_len l h.uniq)
  go_enter Try.func16, Try.ntmps16
  go_wp2
  go_loopw [3, 4] (fun v2 i wr => ∃ n : Nat, n ≤ 64 ∧ i = .int .i64 n ∧ wr.ownsRow w.heap.size 62 7 v2 (rowsTo l n 0).length (flatD (rowsTo l n 0)) ∧ Below w.heap.size w wr) (fun _ i _ => 64 - (intOf i).toNat)
  case atStart =>
    refine ⟨0, Nat.zero_le _, rfl, ?_, (Below.refl _ _).alloc (Nat.le_refl _) _⟩
    rw [hzero.out]
    exact ⟨rfl, .inr ⟨_, 0, #[], rfl, Nat.le_refl _, World.alloc_heap_new _ _, Nat.le_refl _, by simp [maxLen], rfl, rfl⟩⟩
  case round =>
    obtain ⟨n, hn, rfl, hrow, hB⟩ := hrel
    by_cases hn64 : n < 64
    · have hn64' : (n : Int) < 64 := by omega
      have hnext := Lib.hid (rowsTo_next l n)
      go_wp2
      go_loopw [3, 5] (fun v2 i wr => ∃ k : Nat, k ≤ l.length ∧ i = .int .i64 k ∧ wr.ownsRow w.heap.size 62 7 v2 (rowsTo l n k).length (flatD (rowsTo l n k)) ∧ Below w.heap.size w wr) (fun _ i _ => l.length - (intOf i).toNat)
      case atStart => exact ⟨0, Nat.zero_le _, rfl, hrow, hB⟩
      case round =>
        clear hrow hB
        obtain ⟨k, hk, rfl, hrow, hB⟩ := hrel
        obtain ⟨hRM, hbox⟩ := hcell _ hB
        by_cases hkl : k < l.length
        · obtain ⟨d, hd⟩ : ∃ d, l[k]? = some d := ⟨l[k], List.getElem?_eq_getElem hkl⟩
          obtain ⟨a, rfl, hcells⟩ := rowAt hRM.row (by omega)
          obtain ⟨c0, c1, c2, c3, c4, c5, c6⟩ := recAt hcells hd
          have hklt : (k : Int) < (l.length : Int) := by omega
          have hsz := hB.size
          by_cases hdn : d.node = n
          · have hdn' : ((d.node : Int) == (n : Int)) = true := by simp [hdn]
            have HT := Lib.hid (rowsTo_yes l n k d hd hdn)
            have hol := hRl.out n k
            obtain ⟨A2, cc2, rfl⟩ := rowForm hrow
            have hgb : ∀ j, (Value.slice A2 (rowsTo l n k).length cc2).ownBlock = some j → w.heap.size ≤ j ∧ j < wr.heap.size := fun j hj => rowBlock hrow hj
            clear hdn hcell hd hcells
            go_wp2_with (at_builtin; refine wpList_append_own _ rfl _ _ 29 rfl w.heap.size 62 j0 (.agg #[.int .i64 0, .int .u64 0, .int .i64 0, .int .u64 0, .int .u64 0, .int .u64 0, .int .u64 0]) 7 56 Try.underlying29 hj hy0 hy1 hy2 rfl (by decide) _ _ _ rfl (hrow.alloc _) ⟨wr.heap.size, 0, none⟩ 1 1 (cellsD d).toList rfl rfl (newCells rfl _ _) (by simp [Value.oneCell', cellsD]) (by simp only [maxLen]; omega) (by omega) (by simp; omega) ?_; intro v' w3 hown' hgrow _)
            have hB3 : Below w.heap.size w w3 := hB.trans ((((Below.refl _ wr).alloc hsz (.cells (cellsD d).toList.toArray 62)).grown hgrow (by simp; omega) (fun j hj => (hgb j hj).1)))
            go_roundw
            case rel => exact ⟨k + 1, by omega, by go_num, by rw [HT.out, flatD_app, List.length_append]; simpa [flatD] using hown', hB3⟩
            case measure => simp [intOf]; omega
          · have hdn' : ((d.node : Int) == (n : Int)) = false := by simp; omega
            have HT := Lib.hid (rowsTo_no l n k d hd hdn)
            clear hdn hcell hd hcells
            go_wp2
            go_roundw
            case rel => exact ⟨k + 1, by omega, by go_num, by rw [HT.out]; exact hrow, hB⟩
            case measure => simp [intOf]; omega
        · obtain rfl : k = l.length := by omega
          go_wp2
          go_roundw
          case rel => exact ⟨n + 1, by omega, by go_num, by rw [← hnext.out]; exact hrow, hB⟩
          case measure => simp [intOf]; omega
    · obtain rfl : n = 64 := by omega
      rw [hfin.out] at hrow
      go_wp2
      go_ret
      exact ⟨_, rfl, hrow, hB⟩

theorem lnot_yes (l : List Dbt) (n : Int) (k : Nat) (d : Dbt) (hd : l[k]? = some d) (h : (d.node : Int) ≠ n) : lnot (l.take (k + 1)) n = lnot (l.take k) n ++ [d] := by
  unfold lnot
  rw [List.take_add_one, hd]
  simp [List.filter_append, h]
theorem lnot_no (l : List Dbt) (n : Int) (k : Nat) (d : Dbt) (hd : l[k]? = some d) (h : (d.node : Int) = n) : lnot (l.take (k + 1)) n = lnot (l.take k) n := by
  unfold lnot
  rw [List.take_add_one, hd]
  simp [List.filter_append, h]
theorem lnot_len (l : List Dbt) (n : Int) : decide ((lnot l n).length < l.length) = (lget l n).isSome := by
  cases h : lget l n with
  | none =>
    rw [lget_none] at h
    have : lnot l n = l := by
      unfold lnot
      rw [List.filter_eq_self]
      intro x hx
      simpa using h x hx
    simp [this]
  | some d =>
    have hm := lget_mem h
    have hn := lget_node h
    have hle := List.length_filter_le (fun d : Dbt => (d.node : Int) != n) l
    have : (lnot l n).length < l.length := by
      unfold lnot
      rcases Nat.lt_or_ge (l.filter fun d : Dbt => (d.node : Int) != n).length l.length with h2 | h2
      · exact h2
      · have h3 := List.length_filter_eq_length_iff.1 (Nat.le_antisymm hle h2) d hm
        simp [hn] at h3
    simp [this]

set_option maxRecDepth 100000 in
set_option maxHeartbeats 8000000 in
theorem rdrop_any (w : World) (Rr : Nat) (v : Value) (l : List Dbt) (h : RM w Rr v l) (n : Int) :
    Calls Try.prog 9 #[.pointer (some ⟨Rr, 0, none⟩), .int .i64 n] w fun e w' => e = .returned (.bool (lget l n).isSome) ∧ ∃ v', RM w' Rr v' (lnot l n) ∧ (∀ j, v'.ownBlock = some j → w.heap.size ≤ j) ∧ Fr (fun k => k = Rr) w w' := by
  obtain ⟨j0, hj, hy0, hy1, hy2⟩ := info_parts infoR
  obtain ⟨A, c, rfl⟩ := rowForm h.row
  have hlen := h.len
  have hlt := h.lt
  have hcell : ∀ wx, Below w.heap.size w wx → RM wx Rr (.slice A l.length c) l ∧ wx.cell? ⟨Rr, 0, none⟩ = some (.slice A l.length c) := fun wx hb => ⟨h.below hb (Nat.le_refl _), (h.below hb (Nat.le_refl _)).box.cell 0⟩
  have hfin := Lib.hid (lnot_len l n)
  have hRl : ∀ k, (lnot (l.take k) n).length ≤ 64 := fun k => Nat.le_trans (List.length_filter_le _ _) (by rw [List.length_take]; omega)
  have HRl := Lib.hid hRl
  clear hRl
  have hUq := Lib.hid (uniq_lnot l n h.uniq)
  go_enter Try.func9, Try.ntmps9
  go_wp2
  go_loopw [5, 6] (fun v2 i wr => ∃ k : Nat, k ≤ l.length ∧ i = .int .i64 k ∧ wr.ownsRow w.heap.size 62 7 v2 (lnot (l.take k) n).length (flatD (lnot (l.take k) n)) ∧ Below w.heap.size w wr) (fun _ i _ => l.length - (intOf i).toNat)
  case atStart => exact ⟨0, Nat.zero_le _, rfl, ⟨rfl, .inr ⟨_, 0, #[], rfl, Nat.le_refl _, World.alloc_heap_new _ _, Nat.le_refl _, by simp [maxLen], rfl, rfl⟩⟩, (Below.refl _ _).alloc (Nat.le_refl _) _⟩
  case round =>
    obtain ⟨k, hk, rfl, hrow, hB⟩ := hrel
    obtain ⟨hRM, hbox⟩ := hcell _ hB
    by_cases hkl : k < l.length
    · obtain ⟨d, hd⟩ : ∃ d, l[k]? = some d := ⟨l[k], List.getElem?_eq_getElem hkl⟩
      obtain ⟨a, rfl, hcells⟩ := rowAt hRM.row (by omega)
      obtain ⟨c0, c1, c2, c3, c4, c5, c6⟩ := recAt hcells hd
      have hklt : (k : Int) < (l.length : Int) := by omega
      have hsz := hB.size
      by_cases hdn : (d.node : Int) = n
      · subst hdn
        have HT := Lib.hid (lnot_no l d.node k d hd rfl)
        clear hcell hd hcells
        go_wp2
        go_roundw
        case rel => exact ⟨k + 1, by omega, by go_num, by rw [HT.out]; exact hrow, hB⟩
        case measure => simp [intOf]; omega
      · have hdn' : ((d.node : Int) != n) = true := by simp [hdn]
        have HT := Lib.hid (lnot_yes l n k d hd hdn)
        have hol := HRl.out k
        obtain ⟨A2, cc2, rfl⟩ := rowForm hrow
        have hgb : ∀ j, (Value.slice A2 (lnot (l.take k) n).length cc2).ownBlock = some j → w.heap.size ≤ j ∧ j < wr.heap.size := fun j hj => rowBlock hrow hj
        clear hdn hcell hd hcells
        go_wp2_with (at_builtin; refine wpList_append_own _ rfl _ _ 29 rfl w.heap.size 62 j0 (.agg #[.int .i64 0, .int .u64 0, .int .i64 0, .int .u64 0, .int .u64 0, .int .u64 0, .int .u64 0]) 7 56 Try.underlying29 hj hy0 hy1 hy2 rfl (by decide) _ _ _ rfl (hrow.alloc _) ⟨wr.heap.size, 0, none⟩ 1 1 (cellsD d).toList rfl rfl (newCells rfl _ _) (by simp [Value.oneCell', cellsD]) (by simp only [maxLen]; omega) (by omega) (by simp; omega) ?_; intro v' w3 hown' hgrow _)
        have hB3 : Below w.heap.size w w3 := hB.trans ((((Below.refl _ wr).alloc hsz (.cells (cellsD d).toList.toArray 62)).grown hgrow (by simp; omega) (fun j hj => (hgb j hj).1)))
        go_roundw
        case rel => exact ⟨k + 1, by omega, by go_num, by rw [HT.out, flatD_app, List.length_append]; simpa [flatD] using hown', hB3⟩
        case measure => simp [intOf]; omega
    · obtain rfl : k = l.length := by omega
      rw [List.take_length] at hrow
      obtain ⟨A2, cc2, rfl⟩ := rowForm hrow
      have hfr := hRM.box.frozen 0
      have hol := HRl.out l.length
      rw [List.take_length] at hol
      clear hcell
      go_wp2
      go_ret
      have hne : ∀ j, (Value.slice A2 (lnot l n).length cc2).ownBlock = some j → w.heap.size ≤ j := fun j hj => (rowBlock hrow hj).1
      have hRlt := hlt Rr (.inl rfl)
      have f : Fr (fun k => k = Rr) wr (wr.setCell ⟨Rr, 0, none⟩ (.slice A2 (lnot l n).length cc2)) := Fr.setCell _ ⟨Rr, 0, none⟩ _ (S := fun k => k = Rr) rfl
      exact ⟨ret_bool hfin.out, _, ⟨hRM.box.set 0 _, rowFr (rowBase hrow (Nat.zero_le _)) f (fun j hj hc => by have := hne j hj; omega), hUq.out, fun d hd => h.ok d (List.mem_filter.1 hd).1⟩, hne, (Fr.of_below (S := fun k => k = Rr) hB (fun i h1 h2 => absurd h1 (by omega))).trans f (fun _ _ h => h)⟩
end Go.Proofs.Ytilfngegmdedpaa
