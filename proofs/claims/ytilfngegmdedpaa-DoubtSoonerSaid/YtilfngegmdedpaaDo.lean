/- Doubts of the program: Over. -/
import Derived.Test.YtilfngegmdedpaaDn
set_option linter.unusedVariables false
set_option linter.unusedSimpArgs false
namespace Go.Proofs.Ytilfngegmdedpaa
open Go.RowKit Go.Shelf Go.Proofs
attribute [local go_sem] Oper.semAt_some

/-- What is told of one that is over. -/
def cellsU (d : Dbt) : List Value := [.int .i64 d.node, .int .u64 d.inc, .int .i64 3]
def flatU (l : List Dbt) : List Value := l.flatMap cellsU
theorem flatU_app (a b : List Dbt) : flatU (a ++ b) = flatU a ++ flatU b := by simp [flatU]
def overs (l : List Dbt) (now : Nat) : List Dbt := l.filter fun d => decide (d.til ≤ now)
/-- Without those that are over, among ds. -/
def odel (l ds : List Dbt) (now : Nat) : List Dbt := ds.foldl (fun a d => if d.til ≤ now then ldel a d.node else a) l
theorem odel_app (l ds : List Dbt) (d : Dbt) (now : Nat) : odel l (ds ++ [d]) now = if d.til ≤ now then ldel (odel l ds now) d.node else odel l ds now := by
  unfold odel
  rw [List.foldl_append]
  rfl
theorem overs_app (ds : List Dbt) (d : Dbt) (now : Nat) : overs (ds ++ [d]) now = overs ds now ++ if d.til ≤ now then [d] else [] := by
  unfold overs
  rw [List.filter_append]
  by_cases h : d.til ≤ now <;> simp [h]
theorem infoU : (Try.prog.info? 34).map (fun i => (i.zero, i.size, i.bytes)) = some (some (.agg #[.int .i64 0, .int .u64 0, .int .i64 0]), 3, 24) := by kernel_rfl
theorem flat_at (ds : List Dbt) (k : Nat) (d : Dbt) (hk : ds[k]? = some d) (i : Nat) (u : Value) (hi : i < 7) (hu : (cellsD d)[i]? = some u) : (flatD ds)[k * 7 + i]? = some u := by
  induction ds generalizing k with
  | nil => simp at hk
  | cons x ds ih =>
    have e : flatD (x :: ds) = (cellsD x).toList ++ flatD ds := rfl
    have hl : (cellsD x).toList.length = 7 := rfl
    rw [e]
    cases k with
    | zero =>
      simp at hk
      subst hk
      rw [List.getElem?_append_left (by omega)]
      simpa using hu
    | succ k =>
      rw [List.getElem?_append_right (by omega), hl, show (k + 1) * 7 + i - 7 = k * 7 + i from by omega]
      exact ih k (by simpa using hk)

theorem rowFr {w w' : World} {S : Nat → Prop} {base n : Nat} {e : TypeId} {size : Nat} {v : Value} {xs : List Value} (h : w.ownsRow base e size v n xs) (hf : Fr S w w') (hS : ∀ j, v.ownBlock = some j → ¬ S j) : w'.ownsRow base e size v n xs := by
  refine ⟨h.1, ?_⟩
  rcases h.2 with h2 | ⟨g, cap, cur, h1, h2, h3, h4⟩
  · exact .inl h2
  · exact .inr ⟨g, cap, cur, h1, h2, (hf.block g (Array.getElem?_eq_some_iff.1 h3).1 (hS g (by rw [h1]; rfl))).trans h3, h4⟩
theorem frGrown {w w' : World} {r : Option Nat} (h : Fr (fun k => some k = r) w w') : w.grownBy w' r := ⟨h.os, h.tape, h.output, h.size, fun k hk hn => h.block k hk hn⟩
theorem recAt {w : World} {a k : Nat} {ds : List Dbt} {d : Dbt} (hcell : ∀ i u, (flatD ds)[i]? = some u → w.cell? ⟨a, i, none⟩ = some u) (hd : ds[k]? = some d) :
    w.cell? ⟨a, k * 7, none⟩ = some (.int .i64 d.node) ∧ w.cell? ⟨a, k * 7 + 1, none⟩ = some (.int .u64 d.inc) ∧ w.cell? ⟨a, k * 7 + 2, none⟩ = some (.int .i64 1) ∧ w.cell? ⟨a, k * 7 + 3, none⟩ = some (.int .u64 d.who) ∧
      w.cell? ⟨a, k * 7 + 4, none⟩ = some (.int .u64 d.since) ∧ w.cell? ⟨a, k * 7 + 5, none⟩ = some (.int .u64 d.told) ∧ w.cell? ⟨a, k * 7 + 6, none⟩ = some (.int .u64 d.til) :=
  ⟨hcell _ _ (flat_at ds k d hd 0 _ (by omega) rfl), hcell _ _ (flat_at ds k d hd 1 _ (by omega) rfl), hcell _ _ (flat_at ds k d hd 2 _ (by omega) rfl), hcell _ _ (flat_at ds k d hd 3 _ (by omega) rfl),
    hcell _ _ (flat_at ds k d hd 4 _ (by omega) rfl), hcell _ _ (flat_at ds k d hd 5 _ (by omega) rfl), hcell _ _ (flat_at ds k d hd 6 _ (by omega) rfl)⟩

set_option maxRecDepth 100000 in
set_option maxHeartbeats 8000000 in
theorem over_any (w : World) (Dd : Nat) (r : Option Nat) (l : List Dbt) (h : DM w Dd r l) (now : Nat) :
    Calls Try.prog 11 #[.pointer (some ⟨Dd, 0, none⟩), .int .u64 now] w fun e w' => ∃ v, e = .returned v ∧ w'.ownsRow w.heap.size 34 3 v (overs (lall l) now).length (flatU (overs (lall l) now)) ∧ DM w' Dd r (odel l (lall l) now) ∧ Fr (fun k => some k = r) w w' := by
  obtain ⟨j0, hj, hy0, hy1, hy2⟩ := info_parts infoU
  have hall := all_any w Dd r l h
  generalize hL : lall l = L at *
  have hLl : L.length ≤ 64 := by
    rw [← hL]
    unfold lall
    exact Nat.le_trans (List.length_filterMap_le _ _) (by simp)
  clear hL
  go_enter Try.func11, Try.ntmps11
  go_wp2_with (go_at_call 15; refine hall.mono ?_; rintro e w1 ⟨v, rfl, hrow1, hB1⟩; obtain ⟨A, c, rfl⟩ := rowForm hrow1)
  go_loopw [4, 10] (fun v2 i wr => ∃ k : Nat, k ≤ L.length ∧ i = .int .i64 k ∧ wr.ownsRow w1.heap.size 34 3 v2 (overs (L.take k) now).length (flatU (overs (L.take k) now)) ∧
      DM wr Dd r (odel l (L.take k) now) ∧ wr.ownsRow w.heap.size 55 7 (.slice A L.length c) L.length (flatD L) ∧ Fr (fun k => some k = r) w wr ∧ Fr (fun k => some k = r) w1 wr) (fun _ i _ => L.length - (intOf i).toNat)
  case atStart => exact ⟨0, Nat.zero_le _, rfl, World.ownsRow_nil _ _ _ _, h.below hB1 (Nat.le_refl _), hrow1, Fr.of_below hB1 (fun i h1 h2 => absurd h1 (by omega)), Fr.refl _ _⟩
  case round =>
    obtain ⟨k, hk, rfl, hrow2, hDM, hrow3, hF, hF1⟩ := hrel
    by_cases hkl : k < L.length
    · obtain ⟨d, hd⟩ : ∃ d, L[k]? = some d := ⟨L[k], List.getElem?_eq_getElem hkl⟩
      obtain ⟨a, rfl, hcell⟩ := rowAt hrow3 (by omega)
      obtain ⟨c0, c1, c2, c3, c4, c5, c6⟩ := recAt hcell hd
      have hklt : (k : Int) < (L.length : Int) := by omega
      have hT : L.take (k + 1) = L.take k ++ [d] := by rw [List.take_add_one, hd]; rfl
      have HT1 := Lib.hid (show odel l (L.take (k + 1)) now = _ by rw [hT, odel_app])
      have HT2 := Lib.hid (show overs (L.take (k + 1)) now = _ by rw [hT, overs_app])
      clear hT hcell hd
      by_cases hdn : d.til ≤ now
      · have hdn' : (d.til : Int) ≤ (now : Int) := by omega
        have HT3 := Lib.hid (show overs (L.take (k + 1)) now = overs (L.take k) now ++ [d] by rw [HT2.out, if_pos hdn])
        have HT4 := Lib.hid (show odel l (L.take (k + 1)) now = ldel (odel l (L.take k) now) d.node by rw [HT1.out, if_pos hdn])
        have hol : (overs (L.take k) now).length ≤ 64 := Nat.le_trans (List.length_filter_le _ _) (by rw [List.length_take]; omega)
        have hs1 := hF1.size
        have hs0 := hB1.size
        obtain ⟨A2, cc2, rfl⟩ := rowForm hrow2
        have hRb : ∀ j, (Value.slice A2 (overs (L.take k) now).length cc2).ownBlock = some j → w1.heap.size ≤ j ∧ j < wr.heap.size := fun j hj => rowBlock hrow2 hj
        have hrlt := Lib.hid h.lt
        have hr3b : ∀ j, (Value.slice (some ⟨a, 0, none⟩) L.length c).ownBlock = some j → w.heap.size ≤ j ∧ j < w1.heap.size := fun j hj => rowBlock hrow1 hj
        clear HT1 HT2 hdn
        go_wp2_with (first | (at_builtin; refine wpList_append_own _ rfl _ _ 43 rfl w1.heap.size 34 j0 (.agg #[.int .i64 0, .int .u64 0, .int .i64 0]) 3 24 Try.underlying43 hj hy0 hy1 hy2 rfl (by decide) _ _ _ rfl ((hrow2.alloc _).alloc _) ⟨wr.heap.size + 1, 0, none⟩ 1 1 (cellsU d) rfl rfl (newCells (by simp) _ _) (by simp [Value.oneCell', cellsU]) (by simp only [maxLen]; omega) (by omega) (by simp; omega) ?_; intro v' w3 hown' hgrow _; have hc5 : w3.cell? ⟨wr.heap.size, 0, none⟩ = some (.int .i64 d.node) := (((BoxC.new wr 55 (cellsD d)).alloc (.cells (cellsU d).toArray 34)).kept hgrow (fun e => by have := (hRb _ e.symm).2; omega)).cell 0; have hB3 : Below w1.heap.size wr w3 := (((Below.refl _ wr).alloc hs1 (.cells (cellsD d) 55)).alloc (by simp; omega) (.cells (cellsU d).toArray 34)).grown hgrow (by simp; omega) (fun j hj => (hRb j hj).1); have hDM3 : DM w3 Dd r (odel l (L.take k) now) := hDM.fr (S := fun k => w1.heap.size ≤ k) (Fr.of_below hB3 (fun _ _ h => h)) (fun j hj hc => by have := hrlt.out j hj; omega)) | (go_at_call 8; refine (drop_any w3 Dd r _ hDM3 d.node).mono ?_; rintro e w4 ⟨rfl, hDM4, hF4⟩))
        have hg4 := frGrown hF4
        have hrr : ∀ j, r = some j → j < w.heap.size := fun j hj => hrlt.out j (.inr hj.symm)
        have hs3 := hB3.size
        have f13 : Fr (fun k => some k = r) w1 w3 := hF1.trans (Fr.of_below (S := fun k => w1.heap.size ≤ k) hB3 (fun _ _ h => h)) (fun i h1 h2 => absurd h1 (by omega))
        have hown4 : w4.ownsRow w1.heap.size 34 3 v' (overs (L.take (k + 1)) now).length (flatU (overs (L.take (k + 1)) now)) := by
          rw [HT3.out, flatU_app, List.length_append]
          refine World.ownsRow.kept (by simpa [flatU] using hown') hg4 ?_
          by_cases hv : v'.ownBlock = none
          · exact .inl hv
          · refine .inr fun e => ?_
            cases hr : r with
            | none => rw [hr] at e; exact hv e
            | some j => rw [hr] at e; have := (rowBlock hown' e).1; have := hrr j hr; omega
        go_roundw
        case rel => exact ⟨k + 1, by omega, by go_num, hown4, by rw [HT4.out]; exact hDM4, rowFr (rowFr hrow3 (Fr.of_below (S := fun k => w1.heap.size ≤ k) hB3 (fun _ _ h => h)) (fun j hj hc => by have := (hr3b j hj).2; omega)) hF4 (fun j hj hc => by have := (hr3b j hj).1; have := hrr j hc.symm; omega), (hF.trans (Fr.of_below (S := fun k => w1.heap.size ≤ k) hB3 (fun _ _ h => h)) (fun i h1 h2 => absurd h1 (by omega))).trans hF4 (fun _ _ h => h), f13.trans hF4 (fun _ _ h => h)⟩
        case measure => simp [intOf]; omega
      · have hdn' : (now : Int) < (d.til : Int) := by omega
        have HT3 := Lib.hid (show overs (L.take (k + 1)) now = overs (L.take k) now by rw [HT2.out, if_neg hdn, List.append_nil])
        have HT4 := Lib.hid (show odel l (L.take (k + 1)) now = odel l (L.take k) now by rw [HT1.out, if_neg hdn])
        clear HT1 HT2
        have fA : ∀ o, Below wr.heap.size wr (wr.alloc o) := fun o => (Below.refl _ wr).alloc (Nat.le_refl _) o
        go_wp2
        go_roundw
        case rel => exact ⟨k + 1, by omega, by go_num, by rw [HT3.out]; exact rowKeep hrow2 (fA _), by rw [HT4.out]; exact hDM.below (fA _) (Nat.le_refl _), rowKeep hrow3 (fA _), hF.trans (Fr.of_below (S := fun k => some k = r) (fA _) (fun i h1 h2 => absurd h1 (by omega))) (fun _ _ h => h), hF1.trans (Fr.of_below (S := fun k => some k = r) (fA _) (fun i h1 h2 => absurd h1 (by omega))) (fun _ _ h => h)⟩
        case measure => simp [intOf]; omega
    · obtain rfl : k = L.length := by omega
      rw [List.take_length] at hrow2 hDM
      go_wp2
      go_ret
      exact ⟨_, rfl, rowBase hrow2 hB1.size, hDM, hF⟩
end Go.Proofs.Ytilfngegmdedpaa
