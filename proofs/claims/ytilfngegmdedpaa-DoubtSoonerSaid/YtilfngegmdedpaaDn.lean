/- Doubts of the program: All. -/
import Derived.Test.YtilfngegmdedpaaDm
import Derived.Test.YtilfngegmdedpaaSo
import Derived.Sort.OwnSortedInts
import Derived.Maps.AppendAt
set_option linter.unusedVariables false
set_option linter.unusedSimpArgs false
namespace Go.Proofs.Ytilfngegmdedpaa
open Go.RowKit Go.Shelf Go.Proofs
attribute [local go_sem] Oper.semAt_some

theorem eq_of_rising : ∀ (a b : List Int), a.Pairwise (· < ·) → b.Pairwise (· < ·) → (∀ x, x ∈ a ↔ x ∈ b) → a = b
  | [], [], _, _, _ => rfl
  | [], y :: b, _, _, h => by have := (h y).2 (by simp); simp at this
  | x :: a, [], _, _, h => by have := (h x).1 (by simp); simp at this
  | x :: a, y :: b, ha, hb, h => by
    obtain ⟨h1, h2⟩ := List.pairwise_cons.1 ha
    obtain ⟨h3, h4⟩ := List.pairwise_cons.1 hb
    have exy : x = y := by
      rcases List.mem_cons.1 ((h x).1 (by simp)) with e | e
      · exact e
      · rcases List.mem_cons.1 ((h y).2 (by simp)) with e2 | e2
        · exact e2.symm
        · have := h3 x e; have := h1 y e2; omega
    subst exy
    congr 1
    refine eq_of_rising a b h2 h4 fun z => ?_
    constructor
    · intro hz
      rcases List.mem_cons.1 ((h z).1 (List.mem_cons_of_mem _ hz)) with e | e
      · have := h1 z hz; omega
      · exact e
    · intro hz
      rcases List.mem_cons.1 ((h z).2 (List.mem_cons_of_mem _ hz)) with e | e
      · have := h3 z hz; omega
      · exact e

/-- The nodes of all doubts, rising. -/
def lnodes (l : List Dbt) : List Int := (((List.range 64).filter fun n : Nat => (lget l (n : Int)).isSome)).map fun n : Nat => (n : Int)
theorem mem_lnodes (l : List Dbt) (hok : ∀ d ∈ l, OkD d) (hu : Uniq l) (x : Int) : x ∈ lnodes l ↔ ∃ d ∈ l, (d.node : Int) = x := by
  unfold lnodes
  simp only [List.mem_map, List.mem_filter, List.mem_range]
  constructor
  · rintro ⟨n, ⟨h1, h2⟩, rfl⟩
    obtain ⟨d, hd⟩ := Option.isSome_iff_exists.1 h2
    exact ⟨d, lget_mem hd, lget_node hd⟩
  · rintro ⟨d, hd, rfl⟩
    refine ⟨d.node, ⟨(hok d hd).1, ?_⟩, rfl⟩
    rw [lget_of_mem hu hd]
    rfl
theorem rising_lnodes (l : List Dbt) : (lnodes l).Pairwise (· < ·) := by
  unfold lnodes
  rw [List.pairwise_map]
  refine (List.Pairwise.filter _ List.pairwise_lt_range).imp ?_
  intro a b h
  omega
theorem sorted_nodes (l : List Dbt) (hok : ∀ d ∈ l, OkD d) (hu : Uniq l) (ks : List Int) (hp : ks.Perm (l.map fun d => (d.node : Int))) : (ks.mergeSort fun x y => decide (x ≤ y)) = lnodes l := by
  have hp2 := (List.mergeSort_perm ks fun x y => decide (x ≤ y)).trans hp
  have hnd : (l.map fun d => (d.node : Int)).Nodup := by
    have : (l.map fun d => (d.node : Int)) = (l.map (·.node)).map fun n : Nat => (n : Int) := by rw [List.map_map]; rfl
    rw [this]
    unfold List.Nodup
    rw [List.pairwise_map]
    exact hu.imp (fun h e => h (by omega))
  refine eq_of_rising _ _ ?_ (rising_lnodes l) fun x => ?_
  · have h1 : (ks.mergeSort fun x y => decide (x ≤ y)).Pairwise (fun a b => decide (a ≤ b) = true) := List.pairwise_mergeSort (fun a b c h1 h2 => by simp at *; omega) (fun a b => by simp; omega) ks
    have h2 : (ks.mergeSort fun x y => decide (x ≤ y)).Nodup := hp2.nodup_iff.2 hnd
    exact (h1.and h2).imp (fun ⟨a, b⟩ => by simp at a; omega)
  · rw [mem_lnodes l hok hu, hp2.mem_iff]
    simp
theorem lall_lnodes (l : List Dbt) : (lnodes l).filterMap (lget l) = lall l := by
  unfold lnodes lall
  rw [List.filterMap_map]
  generalize List.range 64 = r
  induction r with
  | nil => rfl
  | cons n r ih =>
    rw [List.filter_cons]
    cases h : lget l (n : Int) with
    | none => simp [h, ih]
    | some d => simp [h, ih]
theorem lnodes_some (l : List Dbt) (x : Int) (h : x ∈ lnodes l) : ∃ d, lget l x = some d := by
  unfold lnodes at h
  simp only [List.mem_map, List.mem_filter, List.mem_range] at h
  obtain ⟨n, ⟨h1, h2⟩, rfl⟩ := h
  exact Option.isSome_iff_exists.1 h2
theorem lnodes_len (l : List Dbt) : (lnodes l).length ≤ 64 := by
  unfold lnodes
  rw [List.length_map]
  exact Nat.le_trans (List.length_filter_le _ _) (by simp)

/-- The cells of a row of doubts. -/
def flatD (l : List Dbt) : List Value := l.flatMap fun d => (cellsD d).toList
theorem flatD_app (a b : List Dbt) : flatD (a ++ b) = flatD a ++ flatD b := by simp [flatD]
theorem flatD_len (l : List Dbt) : (flatD l).length = l.length * 7 := by
  induction l with
  | nil => rfl
  | cons d l ih =>
    show (flatD ([d] ++ l)).length = _
    rw [flatD_app, List.length_append, ih]
    simp [flatD, cellsD]
    omega

theorem rowForm {w : World} {base n : Nat} {e : TypeId} {size : Nat} {v : Value} {xs : List Value} (h : w.ownsRow base e size v n xs) : ∃ A c, v = .slice A n c := by
  rcases h.2 with ⟨rfl, rfl⟩ | ⟨g, cap, cur, rfl, _⟩
  · exact ⟨none, 0, rfl⟩
  · exact ⟨_, cap, rfl⟩
theorem rowBlock {w : World} {base n : Nat} {e : TypeId} {size : Nat} {v : Value} {xs : List Value} (h : w.ownsRow base e size v n xs) {k : Nat} (hk : v.ownBlock = some k) : base ≤ k ∧ k < w.heap.size := by
  rcases h.2 with ⟨rfl, _⟩ | ⟨g, cap, cur, rfl, hb, hg, _⟩
  · simp [Value.ownBlock] at hk
  · simp [Value.ownBlock] at hk
    subst hk
    exact ⟨hb, (Array.getElem?_eq_some_iff.1 hg).1⟩
theorem rowBase {w : World} {base base' n : Nat} {e : TypeId} {size : Nat} {v : Value} {xs : List Value} (h : w.ownsRow base e size v n xs) (hb : base' ≤ base) : w.ownsRow base' e size v n xs := by
  refine ⟨h.1, ?_⟩
  rcases h.2 with h2 | ⟨g, cap, cur, h1, h2, h3⟩
  · exact .inl h2
  · exact .inr ⟨g, cap, cur, h1, Nat.le_trans hb h2, h3⟩
theorem rowAt {w : World} {base n c : Nat} {e : TypeId} {size : Nat} {A : Option Addr} {xs : List Value} (h : w.ownsRow base e size (.slice A n c) n xs) (hn : 0 < n) : ∃ a, A = some ⟨a, 0, none⟩ ∧ ∀ i u, xs[i]? = some u → w.cell? ⟨a, i, none⟩ = some u := by
  rcases h.2 with ⟨_, h0⟩ | ⟨a, cap, cur, hv, _⟩
  · omega
  · cases hv
    refine ⟨a, rfl, fun i u hi => ?_⟩
    have := World.ownsRow.cells h (g := a) rfl i u hi
    have e : (⟨a, 0, none⟩ : Addr).add i = ⟨a, i, none⟩ := by unfold Addr.add; split <;> simp_all
    rw [← e]; exact this
theorem newCells {W : World} {N : Nat} (h : N = W.heap.size) (cs : List Value) (e : TypeId) : ∀ (j : Nat) (u : Value), cs[j]? = some u → (W.alloc (.cells cs.toArray e)).cell? ((⟨N, 0, none⟩ : Addr).add j) = some u := by
  subst h
  intro j u hj
  have e2 : (⟨W.heap.size, 0, none⟩ : Addr).add j = ⟨W.heap.size, j, none⟩ := by unfold Addr.add; split <;> simp_all
  rw [e2]
  have := (BoxC.new W e cs.toArray).cell j
  rw [this]
  simpa using hj
theorem take_some (l : List Dbt) (N : List Int) (k : Nat) (x : Int) (hx : N[k]? = some x) (d : Dbt) (hd : lget l x = some d) : (N.take (k + 1)).filterMap (lget l) = (N.take k).filterMap (lget l) ++ [d] := by
  rw [List.take_add_one, hx]
  simp [List.filterMap_append, hd]
theorem take_len (l : List Dbt) (N : List Int) (hs : ∀ x ∈ N, ∃ d, lget l x = some d) (k : Nat) (hk : k ≤ N.length) : ((N.take k).filterMap (lget l)).length = k := by
  induction k with
  | zero => simp
  | succ k ih =>
    obtain ⟨x, hx⟩ : ∃ x, N[k]? = some x := ⟨N[k], List.getElem?_eq_getElem (by omega)⟩
    obtain ⟨d, hd⟩ := hs x (List.mem_of_getElem? hx)
    rw [take_some l N k x hx d hd, List.length_append, ih (by omega)]
    rfl
theorem rowKeep {w w' : World} {base n : Nat} {e : TypeId} {size : Nat} {v : Value} {xs : List Value} (h : w.ownsRow base e size v n xs) (hb : Below w.heap.size w w') : w'.ownsRow base e size v n xs :=
  h.kept (row := none) (gbBelow hb none) (by cases v.ownBlock with
    | none => exact .inl rfl
    | some b => exact .inr (by simp))
theorem rangeLeft_eq {w : World} {b r : Nat} {es : Array MapEntry} {clock : Nat} {m : Option Nat} {s c : Nat} {seen : Array Nat} (hb : w.heap[b]? = some (.map es clock)) (hr : w.heap[r]? = some (.mapIter m s seen c)) : w.rangeLeft b r = (leftOf es seen).size := by
  unfold World.rangeLeft
  rw [hb, hr]
theorem sort_own (w : World) (base : Nat) (v : Value) (ks : List Int) (hlen : ks.length < 4611686018427387904) (h : w.ownsRow base 3 1 v ks.length (ks.map (Value.int .i64))) :
    Calls Try.prog 27 #[v] w fun e w' => e = .returned (.tuple #[]) ∧ w'.ownsRow base 3 1 v ks.length ((ks.mergeSort fun x y => decide (x ≤ y)).map (Value.int .i64)) ∧ w.grownBy w' v.ownBlock := by
  rcases h.2 with ⟨rfl, h0⟩ | ⟨g, cap, cur, rfl, hb, hg, hn, hm, hs, ht⟩
  · have hks : ks = [] := List.length_eq_zero_iff.1 h0
    subst hks
    refine Calls.mono (AnyM.slices_Sort_int_none Try.sortA none 0 w) ?_
    rintro e w' ⟨rfl, rfl⟩
    exact ⟨rfl, by simpa using h, World.grownBy.refl _ _⟩
  · have hH := holds_of_blockI (ss := ks) hg (by simpa using ht)
    refine Calls.mono (AnyM.slices_Sort_int Try.sortA g 0 cap ks w hH (Array.getElem?_eq_some_iff.1 hg).1 hlen) ?_
    rintro e w' ⟨rfl, n, os, rfl⟩
    exact ⟨rfl, ownsRow_sortedI (by rw [List.length_mergeSort]) hb hg hn hm hs, grownBy_sortedI _⟩
theorem infoI : (Try.prog.info? 3).map (fun i => (i.zero, i.size, i.bytes)) = some (some (.int .i64 0), 1, 8) := by kernel_rfl
theorem infoD : (Try.prog.info? 55).map (fun i => (i.zero, i.size, i.bytes)) = some (some (.agg #[.int .i64 0, .int .u64 0, .int .i64 0, .int .u64 0, .int .u64 0, .int .u64 0, .int .u64 0]), 7, 56) := by kernel_rfl

/-- The key of an entry. -/
def keyI (e : MapEntry) : Int := match e.key with | .int _ n => n | _ => 0
theorem keys_of {l : List Dbt} {es : Array MapEntry} (h : Ents (l.map ent) es) : (∀ e ∈ es.toList, e.key = .int .i64 (keyI e)) ∧ es.toList.map keyI = l.map fun d => (d.node : Int) := by
  unfold Ents at h
  rw [List.map_map] at h
  constructor
  · intro e he
    have : (e.key, e.val) ∈ es.toList.map (fun e => (e.key, e.val)) := List.mem_map.2 ⟨e, he, rfl⟩
    rw [h] at this
    obtain ⟨d, _, hd⟩ := List.mem_map.1 this
    simp [ent] at hd
    unfold keyI
    rw [← hd.1]
  · have h2 := congrArg (List.map fun p : Value × Value => match p.1 with | .int _ n => n | _ => 0) h
    rw [List.map_map, List.map_map] at h2
    exact h2

theorem nodup_of_map {α β : Type} (f : α → β) {l : List α} (h : (l.map f).Nodup) : l.Nodup := (List.pairwise_map.1 h).imp (fun h e => h (by rw [e]))
theorem seen_perm {es : Array MapEntry} {sn : List MapEntry} (hn : (es.toList.map (·.born)).Nodup) (hsub : ∀ e ∈ sn, e ∈ es.toList) (hsn : (sn.map (·.born)).Nodup) (hl : (leftOf es (sn.map (·.born)).toArray).size = 0) : sn.Perm es.toList := by
  have hall := all_seen es _ hl
  have h2 : ∀ e ∈ es.toList, e ∈ sn := by
    intro e he
    have := hall e he
    simp at this
    obtain ⟨x, hx, hb⟩ := this
    have : x = e := born_inj hn (hsub x hx) he hb
    exact this ▸ hx
  have n1 : sn.Nodup := nodup_of_map _ hsn
  have n2 : es.toList.Nodup := nodup_of_map _ hn
  exact (List.perm_ext_iff_of_nodup n1 n2).2 fun a => ⟨hsub a, h2 a⟩

set_option maxRecDepth 100000 in
set_option maxHeartbeats 4000000 in
theorem all_nil (w : World) (Dd : Nat) (h : DM w Dd none []) :
    Calls Try.prog 15 #[.pointer (some ⟨Dd, 0, none⟩)] w fun e w' => ∃ v, e = .returned v ∧ w'.ownsRow w.heap.size 55 7 v (lall []).length (flatD (lall [])) ∧ Below w.heap.size w w' := by
  have hc := h.box.cell 0
  have hlt := h.box.lt
  simp at hc
  have hrg := run_range_nilMap (P := Try.prog) w 25 _ _ Try.underlying25
  have hnx : ∀ ty, (Instr.next (.pointer (some ⟨w.heap.size, 0, none⟩)) false ty).run Try.prog (w.alloc (.mapIter none 0 #[] 0)) = _ := fun ty => run_next_nilMap w ty 0 0 #[]
  have hBw : Below w.heap.size w (w.alloc (.mapIter none 0 #[] 0)) := (Below.refl _ _).alloc (Nat.le_refl _) _
  have hso := fun W => AnyM.slices_Sort_int_none Try.sortA none 0 W
  have hE : lall [] = [] := by
    unfold lall
    rw [List.filterMap_eq_nil_iff]
    intro a _
    rfl
  have HE := Lib.hid hE
  clear hE
  go_enter Try.func15, Try.ntmps15
  go_wp2
  refine wp_loop_rounds 1 ?_
  rw [rounds_succ]
  go_wp2_with (go_at_call 27; refine Calls.mono (hso _) ?_; rintro e w' ⟨rfl, rfl⟩)
  refine wp_loop_rounds 1 ?_
  rw [rounds_succ]
  go_wp2
  go_ret
  exact ⟨_, rfl, by rw [HE.out]; exact World.ownsRow_nil _ _ _ _, hBw⟩

set_option maxRecDepth 100000 in
set_option maxHeartbeats 8000000 in
theorem all_some (w : World) (Dd mb : Nat) (l : List Dbt) (h : DM w Dd (some mb) l) :
    Calls Try.prog 15 #[.pointer (some ⟨Dd, 0, none⟩)] w fun e w' => ∃ v, e = .returned v ∧ w'.ownsRow w.heap.size 55 7 v (lall l).length (flatD (lall l)) ∧ Below w.heap.size w w' := by
  obtain ⟨i0, hi, hz0, hz1, hz2⟩ := info_parts infoI
  obtain ⟨j0, hj, hy0, hy1, hy2⟩ := info_parts infoD
  have hc := h.box.cell 0
  have hlt := h.box.lt
  simp at hc
  obtain ⟨mb', e, hm⟩ : ∃ mb', some mb = some mb' ∧ IntMap w mb' (l.map ent) := by
    rcases h.map with ⟨h1, _⟩ | h1
    · simp at h1
    · exact h1
  cases e
  obtain ⟨es, clock, hb, hE, hold, hnd⟩ := hm
  have hmlt : mb < w.heap.size := (Array.getElem?_eq_some_iff.1 hb).1
  have hkeys := keys_of hE
  have hrg := run_range_map (P := Try.prog) w 25 _ _ mb es clock Try.underlying25 hb
  have hlen : (lnodes l).length ≤ 64 := lnodes_len l
  have hperm : ∀ ks : List Int, ks.Perm (l.map fun d => (d.node : Int)) → ks.length = (lnodes l).length := fun ks hp => by
    have := sorted_nodes l h.ok h.uniq ks hp
    rw [← this, List.length_mergeSort]
  have hszes : es.size ≤ 64 := by
    have h1 := congrArg List.length hkeys.2
    have h2 := hperm _ (List.Perm.refl _)
    simp at h1 h2
    omega
  go_enter Try.func15, Try.ntmps15
  go_wp2
  have hst : ([] : List MapEntry).length + (leftOf es (([] : List MapEntry).map (·.born)).toArray).size ≤ es.size := by
    show 0 + (Array.filter _ es).size ≤ es.size
    have := Array.size_filter_le (p := fun e => !(([] : List MapEntry).map (·.born)).toArray.contains e.born) (xs := es)
    omega
  go_loopw [3] (fun v wr => ∃ sn : List MapEntry, wr.heap[w.heap.size]? = some (.mapIter (some mb) clock (sn.map (·.born)).toArray clock) ∧ wr.heap[mb]? = some (.map es clock) ∧
      wr.ownsRow (w.heap.size + 1) 3 1 v sn.length ((sn.map keyI).map (Value.int .i64)) ∧ Hid ((∀ e ∈ sn, e ∈ es.toList) ∧ (sn.map (·.born)).Nodup ∧ sn.length + (leftOf es (sn.map (·.born)).toArray).size ≤ es.size) ∧ Below w.heap.size w wr ∧ w.heap.size + 1 ≤ wr.heap.size) (fun _ wr => wr.rangeLeft mb w.heap.size)
  case atStart => exact ⟨[], World.alloc_heap_new w _, (Below.heap_alloc w _ mb hmlt).trans hb, World.ownsRow_nil _ _ _ _, Lib.hid ⟨by simp, by simp, hst⟩, (Below.refl _ _).alloc (Nat.le_refl _) _, by simp⟩
  case round =>
    obtain ⟨sn, hr, hbm, hrow, hsn, hB, hsz⟩ := hrel
    have hsl : sn.length ≤ 64 := by have := hsn.out.2.2; omega
    obtain ⟨A, c, rfl⟩ := rowForm hrow
    rcases run_next_at (P := Try.prog) wr 0 w.heap.size mb clock clock _ es clock hr hbm hold (Nat.le_refl _) with ⟨hl0, hnx⟩ | ⟨e, he, w1, hw1, hnx⟩
    · have hsp := seen_perm hnd hsn.out.1 hsn.out.2.1 hl0
      have hkp : (sn.map keyI).Perm (l.map fun d => (d.node : Int)) := by rw [← hkeys.2]; exact hsp.map _
      have hsort := Lib.hid (sorted_nodes l h.ok h.uniq _ hkp)
      have hso := sort_own wr (w.heap.size + 1) _ (sn.map keyI) (by rw [List.length_map]; omega) (by rw [List.length_map]; exact hrow)
      have hkl : (sn.map keyI).length = (lnodes l).length := hperm _ hkp
      have hsl2 := Lib.hid (show sn.length = (lnodes l).length by rw [← hkl, List.length_map])
      clear hkeys hE hnd hold hsp hkp hperm hkl
      go_wp2_with (go_at_call 27; refine Calls.mono hso ?_; rintro e w2 ⟨rfl, hrow2, hg2⟩)
      have hds := Lib.hid (lall_lnodes l)
      have hsome := Lib.hid (lnodes_some l)
      rw [hsort.out] at hrow2
      clear hsort
      have hA1 : ∀ k, (Value.slice A sn.length c).ownBlock = some k → w.heap.size + 1 ≤ k := fun k hk => (rowBlock hrow hk).1
      have hB2 : Below w.heap.size w w2 := hB.grown hg2 hB.size (fun k hk => by have := hA1 k hk; omega)
      have hm2 : IntMap w2 mb (l.map ent) := (IntMap.below h.map_some hB2 hmlt)
      have hD2 : BoxC w2 Dd 27 #[.map (some mb)] := h.box.below hB2 hlt
      have hsz2 := hB2.size
      have hlt2 := hD2.lt
      have hml2 := hm2.lt
      have hsl3 := Lib.hid (show (lnodes l).length ≤ 64 from hlen)
      clear hlen hszes hst hr hbm hb hrow hc hlt hmlt
      go_wp2
      go_loopw [2, 24] (fun v2 i wr2 => ∃ k : Nat, k ≤ sn.length ∧ i = .int .i64 k ∧ wr2.ownsRow w2.heap.size 55 7 v2 k (flatD (((lnodes l).take k).filterMap (lget l))) ∧ Below w2.heap.size w2 wr2) (fun _ i _ => sn.length - (intOf i).toNat)
      case atStart => exact ⟨0, Nat.zero_le _, rfl, World.ownsRow_nil _ _ _ _, Below.refl _ _⟩
      case round =>
        obtain ⟨k, hk, rfl, hrow3, hB3⟩ := hrel
        have hsz3 := hB3.size
        by_cases hkl : k < sn.length
        · obtain ⟨x, hx⟩ : ∃ x, (lnodes l)[k]? = some x := ⟨(lnodes l)[k]'(by rw [← hsl2.out]; exact hkl), List.getElem?_eq_getElem _⟩
          obtain ⟨d, hd⟩ := hsome.out x (List.mem_of_getElem? hx)
          have hrow4 := rowKeep hrow2 hB3
          rw [List.length_map] at hrow4
          obtain ⟨a, rfl, hcell⟩ := rowAt hrow4 (by omega)
          have hcl := hcell k (.int .i64 x) (by rw [List.getElem?_map, hx]; rfl)
          have hcD := (hD2.below hB3 hlt2).cell 0
          simp at hcD
          have hlk := run_lookup (P := Try.prog) Try.underlying25 Try.underlying3 (zeroD wr) (hm2.below hB3 hml2) x false
          rw [mget_ent, hd] at hlk
          simp [cellsD] at hlk
          have HT := Lib.hid (take_some l (lnodes l) k x hx d hd)
          have hklt : (k : Int) < (sn.length : Int) := by omega
          have hk0 : (0 : Int) ≤ (k : Int) := by omega
          clear hx hd hcell hrow4
          go_wp2_with (at_builtin; refine wpList_append_own _ rfl _ _ 47 rfl w2.heap.size 55 j0 (.agg #[.int .i64 0, .int .u64 0, .int .i64 0, .int .u64 0, .int .u64 0, .int .u64 0, .int .u64 0]) 7 56 Try.underlying47 hj hy0 hy1 hy2 rfl (by decide) _ _ _ rfl (hrow3.alloc _) ⟨wr.heap.size, 0, none⟩ 1 1 (cellsD d).toList rfl rfl (newCells rfl _ _) (by simp [Value.oneCell', cellsD]) (by simp only [maxLen]; omega) (by omega) (by simp; omega) ?_; intro v' w3 hown' hgrow _)
          go_roundw
          case rel => exact ⟨k + 1, by omega, by go_num, by rw [HT.out, flatD_app]; simpa [flatD] using hown', (hB3.alloc hsz3 _).grown hgrow (by simp; omega) (fun j hj => (rowBlock hrow3 hj).1)⟩
          case measure => simp [intOf]; omega
        · obtain rfl : k = sn.length := by omega
          have hfin : Hid (((lnodes l).take sn.length).filterMap (lget l) = lall l) := Lib.hid (by rw [hsl2.out, List.take_length]; exact hds.out)
          have hlenf : Hid ((lall l).length = sn.length) := Lib.hid (by rw [← hfin.out]; exact take_len l _ (fun x hx => hsome.out x hx) _ (by rw [hsl2.out]; exact Nat.le_refl _))
          go_wp2
          go_ret
          exact ⟨_, rfl, by rw [hlenf.out, ← hfin.out]; exact rowBase hrow3 hsz2, hB2.trans (hB3.mono hsz2)⟩
    · obtain ⟨he1, he2⟩ := mem_left he
      have hke := hkeys.1 e he1
      have hdec := left_shrinks es _ e he
      have hse : (sn.map (·.born)).toArray.push e.born = ((sn ++ [e]).map (·.born)).toArray := by simp
      have hsn2 := Lib.hid (p := (∀ x ∈ sn ++ [e], x ∈ es.toList) ∧ ((sn ++ [e]).map (·.born)).Nodup ∧ (sn ++ [e]).length + (leftOf es ((sn ++ [e]).map (·.born)).toArray).size ≤ es.size) ⟨by
        intro x hx
        rcases List.mem_append.1 hx with hx | hx
        · exact hsn.out.1 x hx
        · simp at hx; exact hx ▸ he1, by
        rw [List.map_append, List.nodup_append]
        refine ⟨hsn.out.2.1, by simp, ?_⟩
        intro a ha b hb e2
        simp at hb
        subst hb
        subst e2
        obtain ⟨y, hy, hy2⟩ := List.mem_map.1 ha
        simp at he2
        exact he2 y hy hy2, by
        rw [← hse]
        have := hsn.out.2.2
        simp only [List.length_append, List.length_cons, List.length_nil]
        omega⟩
      rw [hse] at hnx hdec
      have hw1h : w1.heap = wr.heap := by rcases hw1 with rfl | rfl <;> rfl
      have hrl := (Array.getElem?_eq_some_iff.1 hr).1
      have hrm : w.heap.size ≠ mb := by omega
      have f1 : (Go.ChangeMaps.setBlock w1 w.heap.size (.mapIter (some mb) clock ((sn ++ [e]).map (·.born)).toArray clock)).heap[w.heap.size]? = some (.mapIter (some mb) clock ((sn ++ [e]).map (·.born)).toArray clock) := by
        unfold Go.ChangeMaps.setBlock
        simp [hw1h, hrl]
      have f2 : ∀ k, k ≠ w.heap.size → (Go.ChangeMaps.setBlock w1 w.heap.size (.mapIter (some mb) clock ((sn ++ [e]).map (·.born)).toArray clock)).heap[k]? = wr.heap[k]? := by
        intro k hk
        unfold Go.ChangeMaps.setBlock
        simp [hw1h, Array.getElem?_setIfInBounds, Ne.symm hk]
      have f3 : (Go.ChangeMaps.setBlock w1 w.heap.size (.mapIter (some mb) clock ((sn ++ [e]).map (·.born)).toArray clock)).heap.size = wr.heap.size := by
        unfold Go.ChangeMaps.setBlock
        simp [hw1h]
      have f4 : (Go.ChangeMaps.setBlock w1 w.heap.size (.mapIter (some mb) clock ((sn ++ [e]).map (·.born)).toArray clock)).os = wr.os ∧ (Go.ChangeMaps.setBlock w1 w.heap.size (.mapIter (some mb) clock ((sn ++ [e]).map (·.born)).toArray clock)).tape = wr.tape ∧ (Go.ChangeMaps.setBlock w1 w.heap.size (.mapIter (some mb) clock ((sn ++ [e]).map (·.born)).toArray clock)).output = wr.output := by
        rcases hw1 with rfl | rfl <;> exact ⟨rfl, rfl, rfl⟩
      generalize Go.ChangeMaps.setBlock w1 w.heap.size (.mapIter (some mb) clock ((sn ++ [e]).map (·.born)).toArray clock) = W2 at *
      have hgb : wr.grownBy W2 (some w.heap.size) := ⟨f4.1, f4.2.1, f4.2.2, by omega, fun k _ hk => f2 k (fun e => hk (by rw [e]))⟩
      have hBW : Below w.heap.size w W2 := hB.grown hgb (by omega) (fun k hk => by cases hk; exact Nat.le_refl _)
      have hbm2 : W2.heap[mb]? = some (.map es clock) := (f2 mb (Ne.symm hrm)).trans hbm
      have hrow2 : W2.ownsRow (w.heap.size + 1) 3 1 (.slice A sn.length c) sn.length ((sn.map keyI).map (Value.int .i64)) := hrow.kept hgb (.inr (fun e2 => by have := (rowBlock hrow e2).1; omega))
      have hen := run_entry_at (P := Try.prog) W2 w.heap.size mb clock (sn.map (·.born)).toArray es clock e (by rw [hse]; exact f1) hbm2 he1 hnd
      rw [hke] at hnx hen
      have hkI : ((sn.map keyI).map (Value.int .i64)).length = sn.length := by simp
      have HM := Lib.hid (rangeLeft_eq hbm hr)
      have HF1 := Lib.hid f1
      have HB2 := Lib.hid hbm2
      have hdec' := Lib.hid hdec
      clear hkeys hE hperm hnd hold hr hbm hb hbm2 he he1 he2 hrow hsn hw1h hw1 f2 f4 hst hke hse hgb hrm hdec
      go_wp2_with (at_builtin; refine wpList_append_own _ rfl _ _ 66 rfl (w.heap.size + 1) 3 i0 (.int .i64 0) 1 8 Try.underlying66 hi hz0 hz1 hz2 rfl (by decide) _ _ _ rfl (hrow2.alloc _) ⟨wr.heap.size, 0, none⟩ 1 1 [.int .i64 (keyI e)] rfl rfl (newCells f3.symm _ _) (by simp [Value.oneCell']) (by simp only [maxLen]; omega) (by omega) (by simp; omega) ?_; intro v' w3 hown' hgrow _)
      have hA2 : ∀ k, k ≤ w.heap.size → some k ≠ (Value.slice A sn.length c).ownBlock := fun k hk e2 => by have := (rowBlock hrow2 e2.symm).1; omega
      have g1 : w3.heap[w.heap.size]? = some (.mapIter (some mb) clock ((sn ++ [e]).map (·.born)).toArray clock) := (hgrow.block _ (by simp; omega) (hA2 _ (Nat.le_refl _))).trans ((Below.heap_alloc W2 _ _ (by omega)).trans HF1.out)
      have g2 : w3.heap[mb]? = some (.map es clock) := (hgrow.block _ (by simp; omega) (hA2 _ (by omega))).trans ((Below.heap_alloc W2 _ _ (by omega)).trans HB2.out)
      have hlt3 : w3.rangeLeft mb w.heap.size < wr.rangeLeft mb w.heap.size := by rw [rangeLeft_eq g2 g1, HM.out]; exact hdec'.out
      have hg3 := hgrow.size
      simp at hg3
      go_roundw
      case rel => exact ⟨sn ++ [e], g1, g2, by simpa using hown', hsn2, (hBW.alloc (by omega) _).grown hgrow (by simp; omega) (fun j hj => by have := (rowBlock hrow2 hj).1; omega), by omega⟩
      case measure => exact hlt3

/-- All doubts, their nodes rising. -/
theorem all_any (w : World) (Dd : Nat) (r : Option Nat) (l : List Dbt) (h : DM w Dd r l) :
    Calls Try.prog 15 #[.pointer (some ⟨Dd, 0, none⟩)] w fun e w' => ∃ v, e = .returned v ∧ w'.ownsRow w.heap.size 55 7 v (lall l).length (flatD (lall l)) ∧ Below w.heap.size w w' := by
  rcases h.map with ⟨rfl, rfl⟩ | ⟨mb, rfl, _⟩
  · exact all_nil w Dd h
  · exact all_some w Dd mb l h
end Go.Proofs.Ytilfngegmdedpaa
