/- Doubts of the document: Raise. -/
import Derived.Test.YtilfngegmdedpaaDt
set_option linter.unusedVariables false
set_option linter.unusedSimpArgs false
namespace Go.Proofs.Ytilfngegmdedpaa
open Go.RowKit Go.Shelf Go.Proofs
attribute [local go_sem] Oper.semAt_some

/-- Cells laid anew in a block, from i on. -/
def setL : Nat → List Value → List Value → List Value
  | _, [], cs => cs
  | i, v :: vs, cs => setL (i + 1) vs (cs.set i v)
theorem setL_eq : ∀ (vs : List Value) (i : Nat) (cs : List Value), i + vs.length ≤ cs.length → setL i vs cs = cs.take i ++ vs ++ cs.drop (i + vs.length)
  | [], i, cs, h => by simp [setL]
  | v :: vs, i, cs, h => by
    have hl : i < cs.length := by simp at h; omega
    rw [setL, setL_eq vs (i + 1) (cs.set i v) (by simp at h ⊢; omega)]
    rw [List.take_set, List.drop_set_of_lt (by omega), List.take_add_one]
    rw [List.getElem?_eq_getElem hl]
    simp only [Option.toList_some]
    have e : (cs.take i ++ [cs[i]]).set i v = cs.take i ++ [v] := by
      rw [List.set_append]
      simp [List.length_take, Nat.min_eq_left (Nat.le_of_lt hl)]
    rw [e]
    simp [Nat.add_assoc, Nat.add_comm 1]
theorem take_mid (L C : List Value) (p q N : Nat) (hC : C.length = q) (h : p + q ≤ N) (hN : N ≤ L.length) : (L.take p ++ C ++ L.drop (p + q)).take N = (L.take N).take p ++ C ++ (L.take N).drop (p + q) := by
  have h1 : (L.take p).length = p := by rw [List.length_take]; omega
  have h2 : (L.take p ++ C).length = p + q := by rw [List.length_append, h1, hC]
  rw [List.take_append, List.take_of_length_le (by rw [h2]; exact h), h2, List.take_take, Nat.min_eq_left (by omega), List.drop_take]
theorem setCells_block (B : Nat) (t : TypeId) : ∀ (vs : List Value) (i : Nat) (w : World) (cs : List Value), BoxC w B t cs.toArray → BoxC (w.setCells B i vs) B t (setL i vs cs).toArray ∧ Fr (fun k => k = B) w (w.setCells B i vs)
  | [], i, w, cs, h => ⟨h, Fr.refl _ _⟩
  | v :: vs, i, w, cs, h => by
    have h1 := h.set i v
    have e : cs.toArray.setIfInBounds i v = (cs.set i v).toArray := by simp
    rw [e] at h1
    obtain ⟨h2, h3⟩ := setCells_block B t vs (i + 1) _ _ h1
    exact ⟨h2, (Fr.setCell w ⟨B, i, none⟩ v (S := fun k => k = B) rfl).trans h3 (fun _ _ h => h)⟩
theorem flatD_set (d : Dbt) : ∀ (l : List Dbt) (k : Nat), k < l.length → flatD (l.set k d) = (flatD l).take (k * 7) ++ (cellsD d).toList ++ (flatD l).drop (k * 7 + 7)
  | [], k, h => by simp at h
  | x :: l, 0, h => rfl
  | x :: l, k + 1, h => by
    have ih := flatD_set d l k (by simpa using h)
    show (cellsD x).toList ++ flatD (l.set k d) = List.take ((k + 1) * 7) ((cellsD x).toList ++ flatD l) ++ (cellsD d).toList ++ List.drop ((k + 1) * 7 + 7) ((cellsD x).toList ++ flatD l)
    have hx : (cellsD x).toList.length = 7 := rfl
    rw [ih, show (k + 1) * 7 = 7 + k * 7 from by omega, show 7 + k * 7 + 7 = 7 + (k * 7 + 7) from by omega, ← hx, List.take_length_add_append, List.drop_length_add_append]
    simp
theorem row_set {w : World} {g k c : Nat} {e : TypeId} {l : List Dbt} (h : w.ownsRow 0 e 7 (.slice (some ⟨g, 0, none⟩) l.length c) l.length (flatD l)) (hk : k < l.length) (d : Dbt) :
    (w.setCells g (k * 7) (cellsD d).toList).ownsRow 0 e 7 (.slice (some ⟨g, 0, none⟩) l.length c) (l.set k d).length (flatD (l.set k d)) ∧ Fr (fun j => j = g) w (w.setCells g (k * 7) (cellsD d).toList) := by
  rcases h.2 with ⟨h1, _⟩ | ⟨g', cap, cur, hv, hb, hg, hn, hm, hs, ht⟩
  · cases h1
  · cases hv
    obtain ⟨h2, h3⟩ := setCells_block g e (cellsD d).toList (k * 7) w cur.toList (by simpa [BoxC] using hg)
    have hlen : (cellsD d).toList.length = 7 := rfl
    have hcl : cur.toList.length = c * 7 := by simpa using hs
    rw [setL_eq _ _ _ (by rw [hlen, hcl]; omega)] at h2
    refine ⟨⟨by rw [flatD_len], .inr ⟨g, c, _, by simp, hb, h2, by simpa using hn, hm, ?_, ?_⟩⟩, h3⟩
    · simp [hcl, hlen]
      omega
    · rw [flatD_set d l k hk, ← ht, List.length_set, hlen]
      exact take_mid _ _ _ _ _ hlen (by omega) (by rw [hcl]; omega)

set_option maxRecDepth 100000 in
set_option maxHeartbeats 4000000 in
theorem rraise_bad (w : World) (Rr : Nat) (node inc s n now nodes : Int) (base : Nat) (hbad : okRaise node s n = false) :
    Calls Try.prog 7 #[.pointer (some ⟨Rr, 0, none⟩), .agg #[.int .i64 node, .int .u64 inc, .int .i64 s], .int .i64 n, .int .u64 now, .int .i64 nodes, .float .f64 base] w fun e w' => e = .returned (.tuple #[.bool false, .int .i64 1]) ∧ Below w.heap.size w w' := by
  have hB0 : Below w.heap.size w (w.alloc (.cells #[.int .i64 node, .int .u64 inc, .int .i64 s] 34)) := (Below.refl _ w).alloc (Nat.le_refl _) _
  have bU := BoxC.new w 34 #[.int .i64 node, .int .u64 inc, .int .i64 s]
  have hs0 : (w.alloc (.cells #[.int .i64 node, .int .u64 inc, .int .i64 s] 34)).heap.size = w.heap.size + 1 := by simp
  cases hm : mayB node s with
  | false =>
    have hm' := Lib.hid hm
    clear hm
    go_enter Try.func7, Try.ntmps7
    go_wp2_with (go_at_call 21; refine (rmay_any node inc s _).mono ?_; rw [hm'.out]; rintro e w1 ⟨rfl, hB1⟩)
    refine bodyPost_ret (v := .tuple #[.bool false, .int .i64 1]) (by simp [results, Try.results7, go_sem]) rfl ?_
    exact ⟨rfl, hB0.trans (hB1.mono (by omega))⟩
  | true =>
    have hm' := Lib.hid hm
    have hb : s = 1 → 0 ≤ n → n < 64 → False := fun h1 h2 h3 => by subst h1; simp [okRaise, hm, h2, h3] at hbad
    have hb' := Lib.hid hb
    clear hm hb hbad
    have hkey : ∀ w1 : World, Below (w.alloc (.cells #[.int .i64 node, .int .u64 inc, .int .i64 s] 34)).heap.size (w.alloc (.cells #[.int .i64 node, .int .u64 inc, .int .i64 s] 34)) w1 → w1.cell? ⟨w.heap.size, 2, none⟩ = some (.int .i64 s) := fun w1 h => (bU.below h (by rw [hs0]; omega)).cell 2
    by_cases h1 : s = 1
    · by_cases h2 : 0 ≤ n
      · have h3 : 64 ≤ n := by
          apply Classical.byContradiction
          intro hc
          exact hb'.out h1 h2 (by omega)
        subst h1
        go_enter Try.func7, Try.ntmps7
        go_wp2_with (go_at_call 21; refine (rmay_any node inc 1 _).mono ?_; rw [hm'.out]; rintro e w1 ⟨rfl, hB1⟩; have hc2 := hkey _ hB1)
        refine bodyPost_ret (v := .tuple #[.bool false, .int .i64 1]) (by simp [results, Try.results7, go_sem]) rfl ?_
        exact ⟨rfl, hB0.trans (hB1.mono (by omega))⟩
      · have h3 : n < 0 := by omega
        subst h1
        go_enter Try.func7, Try.ntmps7
        go_wp2_with (go_at_call 21; refine (rmay_any node inc 1 _).mono ?_; rw [hm'.out]; rintro e w1 ⟨rfl, hB1⟩; have hc2 := hkey _ hB1)
        refine bodyPost_ret (v := .tuple #[.bool false, .int .i64 1]) (by simp [results, Try.results7, go_sem]) rfl ?_
        exact ⟨rfl, hB0.trans (hB1.mono (by omega))⟩
    · have h1' : (s != 1) = true := by simp [h1]
      go_enter Try.func7, Try.ntmps7
      go_wp2_with (go_at_call 21; refine (rmay_any node inc s _).mono ?_; rw [hm'.out]; rintro e w1 ⟨rfl, hB1⟩; have hc2 := hkey _ hB1)
      refine bodyPost_ret (v := .tuple #[.bool false, .int .i64 1]) (by simp [results, Try.results7, go_sem]) rfl ?_
      exact ⟨rfl, hB0.trans (hB1.mono (by omega))⟩


theorem nest7 (W : World) (a p : Nat) (v0 v1 v2 v3 v4 v5 v6 : Value) : W.setCells a p [v0, v1, v2, v3, v4, v5, v6] = (((((((W.setCell ⟨a, p, none⟩ v0).setCell ⟨a, p + 1, none⟩ v1).setCell ⟨a, p + 2, none⟩ v2).setCell ⟨a, p + 3, none⟩ v3).setCell ⟨a, p + 4, none⟩ v4).setCell ⟨a, p + 5, none⟩ v5).setCell ⟨a, p + 6, none⟩ v6) := rfl
theorem far7 {W : World} {a p : Nat} {v0 v1 v2 v3 v4 v5 v6 : Value} {b i : Nat} {x : Option Value} (h : Fr (fun j => j = a) W (W.setCells a p [v0, v1, v2, v3, v4, v5, v6])) (hb : b < W.heap.size) (hne : b ≠ a) (hx : W.cell? ⟨b, i, none⟩ = x) :
    (((((((W.setCell ⟨a, p, none⟩ v0).setCell ⟨a, p + 1, none⟩ v1).setCell ⟨a, p + 2, none⟩ v2).setCell ⟨a, p + 3, none⟩ v3).setCell ⟨a, p + 4, none⟩ v4).setCell ⟨a, p + 5, none⟩ v5).setCell ⟨a, p + 6, none⟩ v6).drew.cell? ⟨b, i, none⟩ = x := by
  have e := h.block b hb hne
  have e2 : (W.setCells a p [v0, v1, v2, v3, v4, v5, v6]).cell? ⟨b, i, none⟩ = W.cell? ⟨b, i, none⟩ := World.cell?_of_block e
  rw [nest7] at e2
  rw [World.cell?_drew, e2]
  exact hx
theorem row7 {W : World} {a p : Nat} {v0 v1 v2 v3 v4 v5 v6 : Value} {b s n : Nat} {e : TypeId} {v : Value} {xs : List Value} (h : Fr (fun j => j = a) W (W.setCells a p [v0, v1, v2, v3, v4, v5, v6])) (hr : (W.setCells a p [v0, v1, v2, v3, v4, v5, v6]).ownsRow b e s v n xs) :
    Fr (fun j => j = a) W (((((((W.setCell ⟨a, p, none⟩ v0).setCell ⟨a, p + 1, none⟩ v1).setCell ⟨a, p + 2, none⟩ v2).setCell ⟨a, p + 3, none⟩ v3).setCell ⟨a, p + 4, none⟩ v4).setCell ⟨a, p + 5, none⟩ v5).setCell ⟨a, p + 6, none⟩ v6).drew ∧ (((((((W.setCell ⟨a, p, none⟩ v0).setCell ⟨a, p + 1, none⟩ v1).setCell ⟨a, p + 2, none⟩ v2).setCell ⟨a, p + 3, none⟩ v3).setCell ⟨a, p + 4, none⟩ v4).setCell ⟨a, p + 5, none⟩ v5).setCell ⟨a, p + 6, none⟩ v6).drew.ownsRow b e s v n xs := by
  rw [← nest7]
  generalize W.setCells a p [v0, v1, v2, v3, v4, v5, v6] = N at *
  exact ⟨⟨h.os, h.tape, h.output, h.size, h.block⟩, hr⟩
theorem rowThaw {w : World} {base n m c g : Nat} {e : TypeId} {size : Nat} {xs : List Value} (h : w.ownsRow base e size (.slice (some ⟨g, 0, none⟩) m c) n xs) (i : Nat) : w.frozen? ⟨g, i, none⟩ = false := by
  rcases h.2 with ⟨h1, _⟩ | ⟨g', cap, cur, hv, hb, hg, _⟩
  · cases h1
  · cases hv
    exact (show BoxC w g e cur from hg).frozen i
set_option maxHeartbeats 400000 in
theorem rwith0_any (n q : Nat) (hq : Hid (q = 2 ^ n)) (hn : n < 64) (w : World) :
    Calls Try.prog 23 #[.int .u64 0, .int .i64 n] w fun e w' => e = .returned (.int .u64 (q : Int)) ∧ w = w' :=
  (rwith_any 0 n (by omega) hn w).mono fun e w' h => by rw [hq.out]; simpa using h
/-- None of the first k is of that node, and as new. -/
def NoneYet (l : List Dbt) (node inc k : Nat) : Prop := ∀ j d, j < k → l[j]? = some d → d.node = node → d.inc < inc
theorem noneYet_next {l : List Dbt} {node inc k : Nat} {d : Dbt} (h : NoneYet l node inc k) (hd : l[k]? = some d) (hn : d.node = node → d.inc < inc) : NoneYet l node inc (k + 1) := by
  intro j x hj hx
  by_cases e : j = k
  · subst e
    rw [hd] at hx
    cases hx
    exact hn
  · exact h j x (by omega) hx
theorem noneYet_all {l : List Dbt} {node inc : Nat} (h : NoneYet l node inc l.length) : lget l (node : Int) = none ∨ ∃ x, lget l (node : Int) = some x ∧ x.inc < inc := by
  cases hx : lget l (node : Int) with
  | none => exact .inl rfl
  | some x =>
    obtain ⟨j, hj, e⟩ := List.getElem_of_mem (lget_mem hx)
    exact .inr ⟨x, rfl, h j x hj (by rw [List.getElem?_eq_getElem hj, e]) (by have := lget_node hx; omega)⟩
theorem lget_at {l : List Dbt} (hu : Uniq l) {k : Nat} {d : Dbt} (hd : l[k]? = some d) : lget l (d.node : Int) = some d := lget_of_mem hu (List.mem_of_getElem? hd)

theorem fresh_cells {node inc n now base q E : Nat} {nodes : Int} (hq : q = 2 ^ n) (hE : laterB now (Fl.up (wB base nodes 0)) = E) :
    (cellsD (fresh node inc n now base nodes)).toList = [.int .i64 node, .int .u64 inc, .int .i64 1, .int .u64 q, .int .u64 now, .int .u64 0, .int .u64 E] := by
  have h0 : IntKind.i64.wrap (((0 : Nat) : Int)) = 0 := by decide
  have : endB base nodes now 0 = E := by unfold endB; rw [h0]; exact hE
  unfold fresh cellsD
  rw [this, hq]
  rfl
theorem rm_app {w w5 wr w6 : World} {Rr gg cap c5 : Nat} {A5 : Option Addr} {v : Value} {l : List Dbt} {d : Dbt} {o : Obj} (hRM5 : RM w5 Rr (.slice A5 (lnot l d.node).length c5) (lnot l d.node)) (hgrow : (w5.alloc o).drew.grownBy w6 (Value.slice A5 (lnot l d.node).length c5).ownBlock)
    (hown6 : w6.ownsRow 0 62 7 (.slice (some ⟨gg, 0, none⟩) ((lnot l d.node).length + 1) cap) ((lnot l d.node).length + 1) (flatD (lnot l d.node) ++ (cellsD d).toList)) (hok : OkD d) (hU : Uniq l) (hB : Below w.heap.size w wr) (hF5 : Fr (fun k => k = Rr) wr w5)
    (hv5 : ∀ j, (Value.slice A5 (lnot l d.node).length c5).ownBlock = some j → wr.heap.size ≤ j) (hat : (Value.slice A5 (lnot l d.node).length c5).ownBlock = some gg ∨ gg = w5.heap.size + 1) :
    ∃ v' l', RM (w6.setCell ⟨Rr, 0, none⟩ (.slice (some ⟨gg, 0, none⟩) ((lnot l d.node).length + 1) cap)) Rr v' l' ∧ (∀ m, lget l' m = lget (lput l d) m) ∧ (v' = v ∨ ∀ j, v'.ownBlock = some j → w.heap.size ≤ j) ∧ Fr (SRM Rr v) w (w6.setCell ⟨Rr, 0, none⟩ (.slice (some ⟨gg, 0, none⟩) ((lnot l d.node).length + 1) cap)) := by
  have b6 : BoxC w6 Rr 31 _ := BoxC.kept (W := (w5.alloc o).drew) (hRM5.box.alloc o) hgrow (fun e => hRM5.apart e.symm)
  have hne := box_row b6 hown6 (by decide)
  have hs := hB.size
  have hs5 := hF5.size
  have fS : Fr (fun k => k = Rr) w6 (w6.setCell ⟨Rr, 0, none⟩ (.slice (some ⟨gg, 0, none⟩) ((lnot l d.node).length + 1) cap)) := Fr.setCell _ ⟨Rr, 0, none⟩ _ (S := fun k => k = Rr) rfl
  have hl0 : lget (lnot l (d.node : Int)) d.node = none := by rw [lget_lnot, if_pos rfl]
  refine ⟨_, lnot l d.node ++ [d], ⟨b6.set 0 _, ?_, uniq_app _ _ hl0 hRM5.uniq, ?_⟩, fun m => ?_, .inr ?_, ?_⟩
  · rw [flatD_app, List.length_append]
    have e : flatD [d] = (cellsD d).toList := by simp [flatD]
    rw [e]
    exact rowFr hown6 fS (fun j hj hc => hne (by rw [hj, hc]))
  · intro y hy
    rcases List.mem_append.1 hy with hy | hy
    · exact hRM5.ok y hy
    · simp at hy; rw [hy]; exact hok
  · rw [lget_app _ _ _ hl0, lget_lnot, lget_lput l d m hU]
    by_cases e : m = d.node
    · simp [e]
    · rw [if_neg e, if_neg e, if_neg e]
  · intro j hj
    simp [Value.ownBlock] at hj
    subst hj
    rcases hat with hat | hat
    · have := hv5 _ hat; omega
    · omega
  · refine (((Fr.of_below (S := SRM Rr v) hB (fun i h1 h2 => absurd h1 (by omega))).trans hF5 (fun i _ h2 => .inl h2)).trans (frAppend hgrow) (fun i h1 h2 => ?_)).trans fS (fun i _ h2 => .inl h2)
    have := hv5 _ h2; omega
end Go.Proofs.Ytilfngegmdedpaa
