/- Doubts: both of them beside one another. -/
import Derived.Test.YtilfngegmdedpaaDv
import Derived.Test.YtilfngegmdedpaaDw
set_option linter.unusedVariables false
set_option linter.unusedSimpArgs false
namespace Go.Proofs.Ytilfngegmdedpaa
open Go.RowKit Go.Shelf Go.Proofs

/-- Blocks of cells other than the doubts' own stay. -/
def Stays (w w' : World) : Prop := ∀ (B : Nat) (cs : Array Value) (t : TypeId) (fr : Nat × Nat), w.heap[B]? = some (Obj.cells cs t fr) → t ≠ 27 → t ≠ 31 → t ≠ 62 → w'.heap[B]? = some (Obj.cells cs t fr)
theorem Stays.box {w w' : World} (h : Stays w w') {B : Nat} {t : TypeId} {cs : Array Value} (hb : BoxC w B t cs) (h1 : t ≠ 27) (h2 : t ≠ 31) (h3 : t ≠ 62) : BoxC w' B t cs := h B cs t _ hb h1 h2 h3
theorem Stays.row {w w' : World} (hk : Stays w w') {base n : Nat} {e : TypeId} {size : Nat} {v : Value} {xs : List Value} (h : w.ownsRow base e size v n xs) (h1 : e ≠ 27) (h2 : e ≠ 31) (h3 : e ≠ 62) : w'.ownsRow base e size v n xs := by
  refine ⟨h.1, ?_⟩
  rcases h.2 with h2' | ⟨g, cap, cur, e1, e2, e3, e4⟩
  · exact .inl h2'
  · exact .inr ⟨g, cap, cur, e1, e2, hk g cur e _ e3 h1 h2 h3, e4⟩
theorem Stays.below {w w' : World} (h : Below w.heap.size w w') : Stays w w' := fun B cs t fr hb _ _ _ => (h.block B (Array.getElem?_eq_some_iff.1 hb).1).trans hb
theorem Stays.trans {a b c : World} (h : Stays a b) (k : Stays b c) : Stays a c := fun B cs t fr hb h1 h2 h3 => k B cs t fr (h B cs t fr hb h1 h2 h3) h1 h2 h3

/-- Both doubts; all that they have is newer than w0. -/
def J (w0 w : World) (Dd Rr : Nat) (l l' : List Dbt) : Prop := ∃ r v, DM w Dd r l ∧ RM w Rr v l' ∧ Below w0.heap.size w0 w ∧ (∀ k, SDM Dd r k → w0.heap.size ≤ k) ∧ (∀ k, SRM Rr v k → w0.heap.size ≤ k)

theorem dm_fr_stays {w w' : World} {Dd : Nat} {r : Option Nat} {l : List Dbt} (h : DM w Dd r l) (hf : Fr (SDM Dd r) w w') : Stays w w' := by
  intro B cs t fr hb h1 h2 h3
  refine (hf.block B (Array.getElem?_eq_some_iff.1 hb).1 ?_).trans hb
  rintro (rfl | hk)
  · have := (show w.heap[B]? = _ from h.box).symm.trans hb
    simp at this
    exact h1 this.2.1.symm
  · rcases h.map with ⟨rfl, _⟩ | ⟨mb, rfl, es, clock, hm, _⟩
    · cases hk
    · cases hk
      have := hm.symm.trans hb
      simp at this
theorem rm_fr_stays {w w' : World} {Rr : Nat} {v : Value} {l : List Dbt} (h : RM w Rr v l) (hf : Fr (SRM Rr v) w w') : Stays w w' := by
  intro B cs t fr hb h1 h2 h3
  refine (hf.block B (Array.getElem?_eq_some_iff.1 hb).1 ?_).trans hb
  rintro (rfl | hk)
  · have := (show w.heap[B]? = _ from h.box).symm.trans hb
    simp at this
    exact h2 this.2.1.symm
  · rcases h.row.2 with ⟨rfl, _⟩ | ⟨g, cap, cur, rfl, _, hg, _⟩
    · cases hk
    · cases hk
      have := hg.symm.trans hb
      simp at this
      exact h3 this.2.1.symm
theorem dm_rm_apart {w : World} {Dd Rr : Nat} {r : Option Nat} {v : Value} {l l' : List Dbt} (h : DM w Dd r l) (h' : RM w Rr v l') : ∀ k, SDM Dd r k → ¬ SRM Rr v k := by
  rintro k h1 (rfl | h2)
  · rcases h1 with rfl | h1
    · have := (show w.heap[k]? = _ from h.box).symm.trans h'.box
      simp at this
    · rcases h.map with ⟨rfl, _⟩ | ⟨mb, rfl, hm⟩
      · cases h1
      · cases h1
        exact box_not_map h'.box hm rfl
  · rcases h1 with rfl | h1
    · exact box_row h.box h'.row (by decide) h2
    · rcases h.map with ⟨rfl, _⟩ | ⟨mb, rfl, es, clock, hm, _⟩
      · cases h1
      · cases h1
        rcases h'.row.2 with ⟨rfl, _⟩ | ⟨g, cap, cur, rfl, _, hg, _⟩
        · cases h2
        · cases h2
          have := hm.symm.trans hg
          simp at this
theorem J.dm {w0 w w' : World} {Dd Rr : Nat} {r r' : Option Nat} {v : Value} {l l2 l' : List Dbt} (hD : DM w Dd r l) (hR : RM w Rr v l') (hB : Below w0.heap.size w0 w) (h1 : ∀ k, SDM Dd r k → w0.heap.size ≤ k) (h2 : ∀ k, SRM Rr v k → w0.heap.size ≤ k)
    (hD' : DM w' Dd r' l2) (hr : r' = r ∨ ∃ b, r' = some b ∧ w.heap.size ≤ b) (hF : Fr (SDM Dd r) w w') : J w0 w' Dd Rr l2 l' := by
  have hs := hB.size
  refine ⟨r', v, hD', hR.fr hF (fun k hk hc => dm_rm_apart hD hR k hc hk), hB.trans (hF.below hs (fun i hi hc => by have := h1 i hc; omega)), ?_, h2⟩
  rintro k (rfl | hk)
  · exact h1 k (.inl rfl)
  · rcases hr with rfl | ⟨b, rfl, hb⟩
    · exact h1 k (.inr hk)
    · cases hk; omega
theorem J.rm {w0 w w' : World} {Dd Rr : Nat} {r : Option Nat} {v v' : Value} {l l2 l' : List Dbt} (hD : DM w Dd r l) (hR : RM w Rr v l') (hB : Below w0.heap.size w0 w) (h1 : ∀ k, SDM Dd r k → w0.heap.size ≤ k) (h2 : ∀ k, SRM Rr v k → w0.heap.size ≤ k)
    (hR' : RM w' Rr v' l2) (hv : v' = v ∨ ∀ j, v'.ownBlock = some j → w.heap.size ≤ j) (hF : Fr (SRM Rr v) w w') : J w0 w' Dd Rr l l2 := by
  have hs := hB.size
  refine ⟨r, v', hD.fr hF (fun k hk hc => dm_rm_apart hD hR k hk hc), hR', hB.trans (hF.below hs (fun i hi hc => by have := h2 i hc; omega)), h1, ?_⟩
  rintro k (rfl | hk)
  · exact h2 k (.inl rfl)
  · rcases hv with rfl | hv
    · exact h2 k (.inr hk)
    · have := hv k hk; omega
theorem J.below {w0 w w' : World} {Dd Rr : Nat} {l l' : List Dbt} (h : J w0 w Dd Rr l l') (hb : Below w.heap.size w w') : J w0 w' Dd Rr l l' := by
  obtain ⟨r, v, hD, hR, hB, h1, h2⟩ := h
  exact ⟨r, v, hD.below hb (Nat.le_refl _), hR.below hb (Nat.le_refl _), hB.trans (hb.mono hB.size), h1, h2⟩
theorem J.old {w0 w : World} {Dd Rr : Nat} {l l' : List Dbt} (h : J w0 w Dd Rr l l') : Below w0.heap.size w0 w := by
  obtain ⟨r, v, hD, hR, hB, h1, h2⟩ := h
  exact hB
theorem J.uniq {w0 w : World} {Dd Rr : Nat} {l l' : List Dbt} (h : J w0 w Dd Rr l l') : Uniq l ∧ Uniq l' := by
  obtain ⟨r, v, hD, hR, hB, h1, h2⟩ := h
  exact ⟨hD.uniq, hR.uniq⟩
theorem J.drew {w0 w : World} {Dd Rr : Nat} {l l' : List Dbt} (h : J w0 w Dd Rr l l') : J w0 w.drew Dd Rr l l' := h.below (Below.refl _ w).drew

theorem j_drop {w0 w : World} {Dd Rr : Nat} {l l' : List Dbt} (h : J w0 w Dd Rr l l') (n : Int) (b : Bool) (hb : Hid (b = (lget l n).isSome)) :
    Calls Try.prog 8 #[.pointer (some ⟨Dd, 0, none⟩), .int .i64 n] w fun e w' => e = .returned (.bool b) ∧ J w0 w' Dd Rr (ldel l n) l' ∧ Stays w w' := by
  obtain ⟨r, v, hD, hR, hB, h1, h2⟩ := h
  refine (drop_any w Dd r l hD n).mono ?_
  rintro e w' ⟨rfl, hD', hF⟩
  have hF' : Fr (SDM Dd r) w w' := hF.mono (fun i _ hi => .inr hi)
  exact ⟨by rw [hb.out], J.dm hD hR hB h1 h2 hD' (.inl rfl) hF', dm_fr_stays hD hF'⟩
theorem j_rdrop {w0 w : World} {Dd Rr : Nat} {l l' : List Dbt} (h : J w0 w Dd Rr l l') (n : Int) (b : Bool) (hb : Hid (b = (lget l' n).isSome)) :
    Calls Try.prog 9 #[.pointer (some ⟨Rr, 0, none⟩), .int .i64 n] w fun e w' => e = .returned (.bool b) ∧ J w0 w' Dd Rr l (lnot l' n) ∧ Stays w w' := by
  obtain ⟨r, v, hD, hR, hB, h1, h2⟩ := h
  refine (rdrop_any w Rr v l' hR n).mono ?_
  rintro e w' ⟨rfl, v', hR', hv, hF⟩
  have hF' : Fr (SRM Rr v) w w' := hF.mono (fun i _ hi => .inl hi)
  exact ⟨by rw [hb.out], J.rm hD hR hB h1 h2 hR' (.inr hv) hF', rm_fr_stays hR hF'⟩
theorem j_raise {w0 w : World} {Dd Rr : Nat} {l l' : List Dbt} (h : J w0 w Dd Rr l l') (node s n : Int) (inc now : Nat) (nodes : Int) (base : Nat) (hbase : base < 18446744073709551616) (hnodes : nodes ≤ 9223372036854775807) (hnow : now < 2 ^ 64) (hinc : inc < 2 ^ 64) (b : Bool) (x : Int) (o : Option Dbt) (hr : Hid (rres l node s n inc now base nodes = (o, b, x))) :
    Calls Try.prog 6 #[.pointer (some ⟨Dd, 0, none⟩), .agg #[.int .i64 node, .int .u64 inc, .int .i64 s], .int .i64 n, .int .u64 now, .int .i64 nodes, .float .f64 base] w fun e w' =>
      e = .returned (.tuple #[.bool b, .int .i64 x]) ∧ J w0 w' Dd Rr (lstep l o) l' ∧ Stays w w' := by
  obtain ⟨r, v, hD, hR, hB, h1, h2⟩ := h
  refine (raise_any w Dd r l hD node s n inc now nodes base hbase hnodes hnow hinc).mono ?_
  rw [hr.out]
  rintro e w' ⟨rfl, r', hD', hr', hF⟩
  exact ⟨rfl, J.dm hD hR hB h1 h2 hD' hr' hF, dm_fr_stays hD hF⟩
theorem rraise_any (w : World) (Rr : Nat) (v : Value) (l : List Dbt) (h : RM w Rr v l) (node s n : Int) (inc now : Nat) (nodes : Int) (base : Nat) (hbase : base < 18446744073709551616) (hnodes : nodes ≤ 9223372036854775807) (hnow : now < 2 ^ 64) (hinc : inc < 2 ^ 64) :
    Calls Try.prog 7 #[.pointer (some ⟨Rr, 0, none⟩), .agg #[.int .i64 node, .int .u64 inc, .int .i64 s], .int .i64 n, .int .u64 now, .int .i64 nodes, .float .f64 base] w fun e w' =>
      e = .returned (.tuple #[.bool (rres l node s n inc now base nodes).2.1, .int .i64 (rres l node s n inc now base nodes).2.2]) ∧ ∃ v' l', RM w' Rr v' l' ∧ (∀ m, lget l' m = lget (lstep l (rres l node s n inc now base nodes).1) m) ∧ (v' = v ∨ ∀ j, v'.ownBlock = some j → w.heap.size ≤ j) ∧ Fr (SRM Rr v) w w' := by
  by_cases hok : okRaise node s n = true
  · have hr : rres l node s n inc now base nodes = rstep (lget l node) node.toNat inc n.toNat now base nodes := if_pos hok
    obtain ⟨rfl, h1, h2, h3, h4⟩ := okRaise_parts hok
    obtain ⟨node, rfl⟩ := Int.eq_ofNat_of_zero_le h1
    obtain ⟨n, rfl⟩ := Int.eq_ofNat_of_zero_le h3
    rw [Int.toNat_natCast, Int.toNat_natCast] at hr
    rw [hr]
    exact rraise_ok w Rr v l h node inc n now nodes base hbase hnodes hnow hinc hok
  · have hr : rres l node s n inc now base nodes = (none, false, 1) := if_neg hok
    rw [hr]
    refine (rraise_bad w Rr node inc s n now nodes base (by simpa using hok)).mono ?_
    rintro e w' ⟨rfl, hb⟩
    exact ⟨rfl, v, l, h.below hb (Nat.le_refl _), fun m => rfl, .inl rfl, Fr.of_below hb (fun i h1 h2 => absurd h1 (by omega))⟩
theorem j_rraise {w0 w : World} {Dd Rr : Nat} {l l' : List Dbt} (h : J w0 w Dd Rr l l') (node s n : Int) (inc now : Nat) (nodes : Int) (base : Nat) (hbase : base < 18446744073709551616) (hnodes : nodes ≤ 9223372036854775807) (hnow : now < 2 ^ 64) (hinc : inc < 2 ^ 64) (b : Bool) (x : Int) (o : Option Dbt) (hr : Hid (rres l' node s n inc now base nodes = (o, b, x))) :
    Calls Try.prog 7 #[.pointer (some ⟨Rr, 0, none⟩), .agg #[.int .i64 node, .int .u64 inc, .int .i64 s], .int .i64 n, .int .u64 now, .int .i64 nodes, .float .f64 base] w fun e w' =>
      e = .returned (.tuple #[.bool b, .int .i64 x]) ∧ (∃ l2, J w0 w' Dd Rr l l2 ∧ ∀ m, lget l2 m = lget (lstep l' o) m) ∧ Stays w w' := by
  obtain ⟨r, v, hD, hR, hB, h1, h2⟩ := h
  refine (rraise_any w Rr v l' hR node s n inc now nodes base hbase hnodes hnow hinc).mono ?_
  rw [hr.out]
  rintro e w' ⟨rfl, v', l2, hR', hl, hv, hF⟩
  exact ⟨rfl, ⟨l2, J.rm hD hR hB h1 h2 hR' hv hF, hl⟩, rm_fr_stays hR hF⟩
theorem j_over {w0 w : World} {Dd Rr : Nat} {l l' L : List Dbt} (h : J w0 w Dd Rr l l') (now : Nat) (hL : Hid (L = overs (lall l) now)) :
    Calls Try.prog 11 #[.pointer (some ⟨Dd, 0, none⟩), .int .u64 now] w fun e w' => ∃ A c, e = .returned (.slice A L.length c) ∧ w'.ownsRow 0 34 3 (.slice A L.length c) L.length (flatU L) ∧ J w0 w' Dd Rr (odel l (lall l) now) l' ∧ Stays w w' := by
  obtain ⟨r, v, hD, hR, hB, h1, h2⟩ := h
  refine (over_any w Dd r l hD now).mono ?_
  rw [← hL.out]
  rintro e w' ⟨vo, rfl, hrow, hD', hF⟩
  obtain ⟨A, c, rfl⟩ := rowForm hrow
  have hF' : Fr (SDM Dd r) w w' := hF.mono (fun i _ hi => .inr hi)
  exact ⟨A, c, rfl, rowBase hrow (Nat.zero_le _), J.dm hD hR hB h1 h2 hD' (.inl rfl) hF', dm_fr_stays hD hF'⟩
theorem j_rover {w0 w : World} {Dd Rr : Nat} {l l' L : List Dbt} (h : J w0 w Dd Rr l l') (now : Nat) (hL : Hid (L = overs (lall l') now)) :
    Calls Try.prog 12 #[.pointer (some ⟨Rr, 0, none⟩), .int .u64 now] w fun e w' => ∃ A c, e = .returned (.slice A L.length c) ∧ w'.ownsRow 0 34 3 (.slice A L.length c) L.length (flatU L) ∧ J w0 w' Dd Rr l (odelN l' (lall l') now) ∧ Stays w w' := by
  obtain ⟨r, v, hD, hR, hB, h1, h2⟩ := h
  refine (rover_any w Rr v l' hR now).mono ?_
  rw [← hL.out]
  rintro e w' ⟨vo, rfl, hrow, v', hR', hv, hF⟩
  obtain ⟨A, c, rfl⟩ := rowForm hrow
  have hF' : Fr (SRM Rr v) w w' := hF.mono (fun i _ hi => .inl hi)
  exact ⟨A, c, rfl, rowBase hrow (Nat.zero_le _), J.rm hD hR hB h1 h2 hR' hv hF', rm_fr_stays hR hF'⟩
theorem j_all {w0 w : World} {Dd Rr : Nat} {l l' L : List Dbt} (h : J w0 w Dd Rr l l') (hL : Hid (L = lall l)) :
    Calls Try.prog 15 #[.pointer (some ⟨Dd, 0, none⟩)] w fun e w' => ∃ A c, e = .returned (.slice A L.length c) ∧ w'.ownsRow 0 55 7 (.slice A L.length c) L.length (flatD L) ∧ Below w.heap.size w w' := by
  obtain ⟨r, v, hD, hR, hB, h1, h2⟩ := h
  refine (all_any w Dd r l hD).mono ?_
  rw [← hL.out]
  rintro e w' ⟨vo, rfl, hrow, hb⟩
  obtain ⟨A, c, rfl⟩ := rowForm hrow
  exact ⟨A, c, rfl, rowBase hrow (Nat.zero_le _), hb⟩
theorem j_rall {w0 w : World} {Dd Rr : Nat} {l l' L : List Dbt} (h : J w0 w Dd Rr l l') (hL : Hid (L = lall l')) :
    Calls Try.prog 16 #[.pointer (some ⟨Rr, 0, none⟩)] w fun e w' => ∃ A c, e = .returned (.slice A L.length c) ∧ w'.ownsRow 0 62 7 (.slice A L.length c) L.length (flatD L) ∧ Below w.heap.size w w' := by
  obtain ⟨r, v, hD, hR, hB, h1, h2⟩ := h
  refine (rall_any w Rr v l' hR).mono ?_
  rw [← hL.out]
  rintro e w' ⟨vo, rfl, hrow, hb⟩
  obtain ⟨A, c, rfl⟩ := rowForm hrow
  exact ⟨A, c, rfl, rowBase hrow (Nat.zero_le _), hb⟩
theorem j_theirs {w : World} {b1 : Nat} {A1 : Option Addr} {c1 : Nat} {L : List Dbt} (h1 : w.ownsRow b1 55 7 (.slice A1 L.length c1) L.length (flatD L)) (hl : L.length ≤ 64) :
    Calls Try.prog 14 #[.slice A1 L.length c1] w fun e w' => ∃ A c, e = .returned (.slice A L.length c) ∧ w'.ownsRow 0 62 7 (.slice A L.length c) L.length (flatD L) ∧ Below w.heap.size w w' := by
  refine (theirs_any w b1 A1 c1 L h1 hl).mono ?_
  rintro e w' ⟨vo, rfl, hrow, hb⟩
  obtain ⟨A, c, rfl⟩ := rowForm hrow
  exact ⟨A, c, rfl, rowBase hrow (Nat.zero_le _), hb⟩

/-- The same doubts. -/
def SameL (l l' : List Dbt) : Prop := ∀ m, lget l m = lget l' m
theorem SameL.all {l l' : List Dbt} (h : SameL l l') : lall l = lall l' := lall_congr _ _ h
theorem SameL.rres {l l' : List Dbt} (h : SameL l l') (node s n : Int) (inc now base : Nat) (nodes : Int) : rres l' node s n inc now base nodes = rres l node s n inc now base nodes := by
  unfold Go.Proofs.Ytilfngegmdedpaa.rres
  rw [h node]
theorem SameL.step {l l' : List Dbt} (h : SameL l l') (hu : Uniq l) (hu' : Uniq l') (o : Option Dbt) : SameL (lstep l o) (lstep l' o) := by
  intro m
  cases o with
  | none => exact h m
  | some d => show lget (lput l d) m = lget (lput l' d) m; rw [lget_lput l d m hu, lget_lput l' d m hu', h m]
theorem SameL.drop {l l' : List Dbt} (h : SameL l l') (hu : Uniq l) (n : Int) : SameL (ldel l n) (lnot l' n) := by
  intro m
  rw [ldel_lnot l n hu, lget_lnot, lget_lnot, h m]
theorem lget_odelN (ds : List Dbt) (now : Nat) : ∀ l l', SameL l l' → SameL (odelN l ds now) (odelN l' ds now) := by
  induction ds with
  | nil => exact fun l l' h => h
  | cons d ds ih =>
    intro l l' h
    show SameL (odelN (if d.til ≤ now then lnot l d.node else l) ds now) (odelN (if d.til ≤ now then lnot l' d.node else l') ds now)
    by_cases hd : d.til ≤ now
    · rw [if_pos hd, if_pos hd]
      exact ih _ _ (fun m => by rw [lget_lnot, lget_lnot, h m])
    · rw [if_neg hd, if_neg hd]
      exact ih _ _ h
theorem SameL.over {l l' : List Dbt} (h : SameL l l') (hu : Uniq l) (now : Nat) : SameL (odel l (lall l) now) (odelN l' (lall l') now) := by
  rw [(odel_odelN _ _ l hu).1, ← h.all]
  exact lget_odelN _ _ _ _ h
end Go.Proofs.Ytilfngegmdedpaa
