/- Doubts of the document: Over. -/
import Derived.Test.YtilfngegmdedpaaDs
import Derived.Deep.AppendLies
set_option linter.unusedVariables false
set_option linter.unusedSimpArgs false
namespace Go.Proofs.Ytilfngegmdedpaa
open Go.RowKit Go.Shelf Go.Proofs
attribute [local go_sem] Oper.semAt_some

theorem rowTypes {w : World} {b b' : Nat} {e e' : TypeId} {s s' : Nat} {v v' : Value} {n n' : Nat} {xs xs' : List Value} (h : w.ownsRow b e s v n xs) (h' : w.ownsRow b' e' s' v' n' xs') (hne : e ≠ e') {j : Nat} (hj : v.ownBlock = some j) : v'.ownBlock ≠ some j := by
  intro hj'
  rcases h.2 with ⟨rfl, _⟩ | ⟨g, cap, cur, rfl, _, hg, _⟩
  · simp [Value.ownBlock] at hj
  · rcases h'.2 with ⟨rfl, _⟩ | ⟨g', cap', cur', rfl, _, hg', _⟩
    · simp [Value.ownBlock] at hj'
    · simp [Value.ownBlock] at hj hj'
      subst hj
      subst hj'
      rw [hg] at hg'
      simp at hg'
      exact hne hg'.2
theorem box_row {w : World} {B b : Nat} {t e : TypeId} {s n : Nat} {cs : Array Value} {v : Value} {xs : List Value} (h : BoxC w B t cs) (h' : w.ownsRow b e s v n xs) (hne : t ≠ e) : v.ownBlock ≠ some B := by
  intro hj
  rcases h'.2 with ⟨rfl, _⟩ | ⟨g, cap, cur, rfl, _, hg, _⟩
  · simp [Value.ownBlock] at hj
  · simp [Value.ownBlock] at hj
    subst hj
    have := (show w.heap[g]? = _ from h).symm.trans hg
    simp at this
    exact hne this.2
theorem frAppend {wr w3 : World} {o : Obj} {r : Option Nat} (h : (wr.alloc o).drew.grownBy w3 r) : Fr (fun j => r = some j) wr w3 :=
  ⟨h.os, h.tape, h.output, Nat.le_trans (by simp) h.size, fun j hj hn => (h.block j (by simp; omega) (fun e => hn e.symm)).trans (Below.heap_alloc wr o j hj)⟩
/-- Without those that are over, among ds. -/
def odelN (l ds : List Dbt) (now : Nat) : List Dbt := ds.foldl (fun a d => if d.til ≤ now then lnot a d.node else a) l
theorem odelN_app (l ds : List Dbt) (d : Dbt) (now : Nat) : odelN l (ds ++ [d]) now = if d.til ≤ now then lnot (odelN l ds now) d.node else odelN l ds now := by
  unfold odelN
  rw [List.foldl_append]
  rfl
theorem odel_odelN (ds : List Dbt) (now : Nat) : ∀ l, Uniq l → odel l ds now = odelN l ds now ∧ Uniq (odelN l ds now) := by
  induction ds with
  | nil => exact fun l h => ⟨rfl, h⟩
  | cons d ds ih =>
    intro l h
    show odel (if d.til ≤ now then ldel l d.node else l) ds now = odelN (if d.til ≤ now then lnot l d.node else l) ds now ∧ Uniq (odelN (if d.til ≤ now then lnot l d.node else l) ds now)
    by_cases hd : d.til ≤ now
    · rw [if_pos hd, if_pos hd, ldel_lnot l d.node h]
      exact ih _ (uniq_lnot l d.node h)
    · rw [if_neg hd, if_neg hd]
      exact ih _ h

set_option maxRecDepth 100000 in
set_option maxHeartbeats 8000000 in
theorem rover_any (w : World) (Rr : Nat) (v : Value) (l : List Dbt) (h : RM w Rr v l) (now : Nat) :
    Calls Try.prog 12 #[.pointer (some ⟨Rr, 0, none⟩), .int .u64 now] w fun e w' => ∃ vo, e = .returned vo ∧ w'.ownsRow w.heap.size 34 3 vo (overs (lall l) now).length (flatU (overs (lall l) now)) ∧
      ∃ v', RM w' Rr v' (odelN l (lall l) now) ∧ (v' = v ∨ ∀ j, v'.ownBlock = some j → w.heap.size ≤ j) ∧ Fr (fun k => k = Rr) w w' := by
  obtain ⟨j0, hj, hy0, hy1, hy2⟩ := info_parts infoU
  have hLl := lall_len l
  have hRlt := h.lt
  have hR0 : Rr < w.heap.size := hRlt Rr (.inl rfl)
  have hA0 : Below w.heap.size w (w.alloc (.cells #[] 34)) := (Below.refl _ w).alloc (Nat.le_refl _) _
  have hs0 : (w.alloc (.cells #[] 34)).heap.size = w.heap.size + 1 := by simp
  have hout0 : (w.alloc (.cells #[] 34)).ownsRow w.heap.size 34 3 (.slice (some ⟨w.heap.size, 0, none⟩) 0 0) 0 [] := ⟨rfl, .inr ⟨_, 0, #[], rfl, Nat.le_refl _, World.alloc_heap_new _ _, Nat.le_refl _, by simp [maxLen], rfl, rfl⟩⟩
  have hall := rall_any _ Rr v l (h.below hA0 (Nat.le_refl _))
  generalize hL : lall l = L at *
  clear hL
  go_enter Try.func12, Try.ntmps12
  go_wp2_with (go_at_call 16; refine hall.mono ?_; rintro e w1 ⟨v1, rfl, hrow1, hB1⟩)
  have hB2 : Below w.heap.size w w1 := hA0.trans (hB1.mono (by omega))
  have hRM1 : RM w1 Rr v l := h.below hB2 (Nat.le_refl _)
  have hout1 := rowKeep hout0 hB1
  have hrow1' := rowBase hrow1 (show w.heap.size ≤ _ by omega)
  clear hrow1 hout0 hall hA0 hB1 hs0
  obtain ⟨A, c, rfl⟩ := rowForm hrow1'
  go_loopw [5, 7] (fun v2 i wr => ∃ k : Nat, k ≤ L.length ∧ i = .int .i64 k ∧ wr.ownsRow w.heap.size 34 3 v2 (overs (L.take k) now).length (flatU (overs (L.take k) now)) ∧
      (∃ v', RM wr Rr v' (odelN l (L.take k) now) ∧ (v' = v ∨ ∀ j, v'.ownBlock = some j → w.heap.size ≤ j)) ∧ wr.ownsRow w.heap.size 62 7 (.slice A L.length c) L.length (flatD L) ∧ Fr (fun k => k = Rr) w wr) (fun _ i _ => L.length - (intOf i).toNat)
  case atStart => exact ⟨0, Nat.zero_le _, rfl, hout1, ⟨v, hRM1, .inl rfl⟩, hrow1', Fr.of_below hB2 (fun i h1 h2 => absurd h1 (by omega))⟩
  case round =>
    obtain ⟨k, hk, rfl, hrow2, ⟨v', hRM, hv'⟩, hrow3, hF⟩ := hrel
    by_cases hkl : k < L.length
    · obtain ⟨d, hd⟩ : ∃ d, L[k]? = some d := ⟨L[k], List.getElem?_eq_getElem hkl⟩
      obtain ⟨a, rfl, hcell⟩ := rowAt hrow3 (by omega)
      obtain ⟨c0, c1, c2, c3, c4, c5, c6⟩ := recAt hcell hd
      have hklt : (k : Int) < (L.length : Int) := by omega
      have hkl0 : (0 : Int) ≤ (k : Int) := by omega
      have hT : L.take (k + 1) = L.take k ++ [d] := by rw [List.take_add_one, hd]; rfl
      have HT1 := Lib.hid (show odelN l (L.take (k + 1)) now = _ by rw [hT, odelN_app])
      have HT2 := Lib.hid (show overs (L.take (k + 1)) now = _ by rw [hT, overs_app])
      have hsz := hF.size
      clear hT hcell hd
      by_cases hdn : d.til ≤ now
      · have hdn' : (d.til : Int) ≤ (now : Int) := by omega
        have HT3 := Lib.hid (show overs (L.take (k + 1)) now = overs (L.take k) now ++ [d] by rw [HT2.out, if_pos hdn])
        have HT4 := Lib.hid (show odelN l (L.take (k + 1)) now = lnot (odelN l (L.take k) now) d.node by rw [HT1.out, if_pos hdn])
        have hol : (overs (L.take k) now).length ≤ 64 := Nat.le_trans (List.length_filter_le _ _) (by rw [List.length_take]; omega)
        obtain ⟨A2, cc2, rfl⟩ := rowForm hrow2
        clear HT1 HT2 hdn
        have ag : (Value.slice A2 (overs (L.take k) now).length cc2).ownBlock ≠ some a := rowTypes hrow3 hrow2 (by decide) rfl
        have la : a < wr.heap.size := (rowBlock hrow3 rfl).2
        go_wp2_with fail
        go_region_held3 (fun w' => w'.cell? ⟨a, k * 7, none⟩ = some (.int .i64 d.node) ∧ w'.cell? ⟨a, k * 7 + 1, none⟩ = some (.int .u64 d.inc))
          (first
            | go_keep
            | (go_split_ands
               refine ⟨?_, ?_⟩
               · (rw [hgrow.cell_far _ (by simp; omega) (Ne.symm ag)]; assumption)
               · (rw [hgrow.cell_far _ (by simp; omega) (Ne.symm ag)]; assumption)))
          ((refine step_append_lies _ (by rfl) _ _ _ (by rfl) w.heap.size 34 j0 _ 3 24 Try.underlying43 hj hy0 hy1 hy2 rfl (by omega) (.slice A2 (overs (L.take k) now).length cc2) _ _ (by rfl) ((hrow2.alloc _).drew)
                ⟨wr.heap.size, 0, none⟩ 1 1 (cellsU d) (by rfl) (by rfl) (World.news_of_block (cs := (cellsU d).toArray) (t := 34) (fr := (0, 0)) (heap_alloc_new wr _)) (by simp [Value.oneCell', cellsU])
                (by omega) (by simp only [maxLen]; omega) (by omega) (by simp; omega) (wr.heap.size + 1) (by simp) ?_; intro gg cap w3 hown3 hgrow hat hlt))
        all_goals
          have fG := frAppend hgrow
          have hRM3 : RM w3 Rr v' (odelN l (L.take k) now) := hRM.fr fG (fun j hj hc => by
            rcases hj with rfl | hj
            · have := (rowBlock hrow2 hc).1; omega
            · exact rowTypes hrow2 hRM.row (by decide) hc hj)
          have hrow3' := rowFr hrow3 fG (fun j hj hc => rowTypes hrow3 hrow2 (by decide) hj hc)
          have hdrop := rdrop_any w3 Rr v' _ hRM3 d.node
          have hF3 : Fr (fun k => k = Rr) w w3 := hF.trans fG (fun j hj hc => by have := (rowBlock hrow2 hc).1; omega)
          clear hgrow hRM hRM1 hout1 hrow1' c2 c3 c4 c5 c6 c1 hrow2
          go_wp2_with (go_at_call 9; refine hdrop.mono ?_; rintro e w4 ⟨rfl, v4, hRM4, hv4, hF4⟩)
          have hs3 := hF3.size
          go_roundw
          case rel => exact ⟨k + 1, by omega, by go_num, by rw [HT3.out, flatU_app, List.length_append]; exact rowFr (by simpa [flatU] using hown3) hF4 (fun j hj hc => by have := (rowBlock hown3 hj).1; omega), ⟨v4, by rw [HT4.out]; exact hRM4, .inr (fun j hj => by have := hv4 j hj; omega)⟩, rowFr hrow3' hF4 (fun j hj hc => by have := (rowBlock hrow3' hj).1; omega), hF3.trans hF4 (fun _ _ h => h)⟩
          case measure => simp [intOf]; omega
      · have hdn' : (now : Int) < (d.til : Int) := by omega
        have HT3 := Lib.hid (show overs (L.take (k + 1)) now = overs (L.take k) now by rw [HT2.out, if_neg hdn, List.append_nil])
        have HT4 := Lib.hid (show odelN l (L.take (k + 1)) now = odelN l (L.take k) now by rw [HT1.out, if_neg hdn])
        clear HT1 HT2
        go_wp2
        go_roundw
        case rel => exact ⟨k + 1, by omega, by go_num, by rw [HT3.out]; exact hrow2, ⟨v', by rw [HT4.out]; exact hRM, hv'⟩, hrow3, hF⟩
        case measure => simp [intOf]; omega
    · obtain rfl : k = L.length := by omega
      rw [List.take_length] at hrow2 hRM
      go_wp2
      go_ret
      exact ⟨_, rfl, hrow2, v', hRM, hv', hF⟩
end Go.Proofs.Ytilfngegmdedpaa
