/- The law's own walk: MendStable returns true. -/
import Derived.Test.YtilfngegmdedpaaDoorT
set_option linter.unusedVariables false
set_option linter.unusedSimpArgs false
namespace Go.Proofs.YtilfngegmdedpaaDoor
open Go.RowKit Go.Shelf Go.Proofs

theorem foldl_min_le (xs : List Nat) : ∀ a, xs.foldl min a ≤ a ∧ ∀ x ∈ xs, xs.foldl min a ≤ x := by
  induction xs with
  | nil => intro a; simp
  | cons y ys ih =>
    intro a
    simp only [List.foldl_cons]
    obtain ⟨h1, h2⟩ := ih (min a y)
    refine ⟨by omega, fun x hx => ?_⟩
    rcases List.mem_cons.1 hx with rfl | hx
    · omega
    · exact h2 x hx
theorem foldl_min_mem (xs : List Nat) : ∀ a, xs.foldl min a = a ∨ xs.foldl min a ∈ xs := by
  induction xs with
  | nil => intro a; simp
  | cons y ys ih =>
    intro a
    simp only [List.foldl_cons]
    rcases ih (min a y) with h | h
    · rw [h]
      by_cases e : a ≤ y
      · left; omega
      · right; rw [Nat.min_eq_right (by omega)]; simp
    · right; simp [h]
theorem minL_le {xs : List Nat} {x : Nat} (h : x ∈ xs) : minL xs ≤ x := by
  cases xs with
  | nil => simp at h
  | cons y ys =>
    rcases List.mem_cons.1 h with rfl | h
    · exact (foldl_min_le ys _).1
    · exact (foldl_min_le ys _).2 x h
theorem minL_mem {xs : List Nat} (h : xs ≠ []) : minL xs ∈ xs := by
  cases xs with
  | nil => exact absurd rfl h
  | cons y ys =>
    rcases foldl_min_mem ys y with h | h
    · show ys.foldl min y ∈ _; rw [h]; simp
    · show ys.foldl min y ∈ _; simp [h]

theorem stab_le (g : Nat → Option Nat) (L : List Nat) (i : Nat) (hi : i < L.length) (x : Nat) (h : g (L.getD i 0) = some x) : stab g L ≤ x := by
  have e : L.getD i 0 = L[i] := by simp [List.getD_eq_getElem?_getD, List.getElem?_eq_getElem hi]
  unfold stab
  split
  · unfold upTo
    refine minL_le ?_
    rw [List.take_length]
    refine List.mem_map.2 ⟨L[i], List.getElem_mem hi, ?_⟩
    rw [← e, h]; rfl
  · omega

def good (g : Nat → Option Nat) (L : List Nat) (j : Nat) : Bool := match g (L.getD j 0) with | none => true | some x => x == stab g L
/-- What the law has found behind k places. -/
def just (g : Nat → Option Nat) (L : List Nat) (k : Nat) : Bool := (decide (L.length = 0) && stab g L == 0) || (List.range k).any (good g L)
theorem just_succ (g : Nat → Option Nat) (L : List Nat) (k : Nat) : just g L (k + 1) = (just g L k || good g L k) := by
  simp [just, List.range_succ, Bool.or_assoc]
theorem just_end (g : Nat → Option Nat) (L : List Nat) : just g L L.length = true := by
  by_cases h0 : L = []
  · subst h0
    simp [just, stab, upTo, minL]
  · have hl : 0 < L.length := List.length_pos_iff.2 h0
    suffices h : ∃ j, j < L.length ∧ good g L j = true by
      obtain ⟨j, hj, hg⟩ := h
      simp only [just, Bool.or_eq_true, List.any_eq_true]
      exact .inr ⟨j, by simpa using hj, hg⟩
    by_cases hall : ∀ i, i < L.length → g (L.getD i 0) ≠ none
    · have hs := stab_all g L hall
      have hm : minL (L.map fun n => (g n).getD 0) ∈ L.map fun n => (g n).getD 0 := minL_mem (by simpa using h0)
      obtain ⟨y, hy, he⟩ := List.mem_map.1 hm
      obtain ⟨j, hj, rfl⟩ := List.mem_iff_getElem.1 hy
      have e : L.getD j 0 = L[j] := by simp [List.getD_eq_getElem?_getD, List.getElem?_eq_getElem hj]
      refine ⟨j, hj, ?_⟩
      have hne := hall j hj
      unfold good
      cases hg : g (L.getD j 0) with
      | none => exact absurd hg hne
      | some x =>
        simp only [beq_iff_eq]
        rw [hs]
        unfold upTo
        rw [List.take_length, ← he, ← e, hg]
        rfl
    · have : ∃ i, i < L.length ∧ g (L.getD i 0) = none := by
        apply Classical.byContradiction
        intro h
        exact hall fun i hi hn => h ⟨i, hi, hn⟩
      obtain ⟨j, hj, hn⟩ := this
      exact ⟨j, hj, by unfold good; rw [hn]⟩

/-- What the walk is told of a slice of integers that came in. -/
def IsRow (k : IntKind) (w : World) (a : Option Addr) (len cap : Nat) (zs : List Int) : Prop :=
  (a = none ∧ len = 0 ∧ cap = 0 ∧ zs = []) ∨
  ∃ x, a = some x ∧ len ≤ cap ∧ cap ≤ maxLen ∧ zs.length = cap ∧ (∀ i, i < zs.length → w.cell? (x.add i) = some (.int k (zs.getD i 0))) ∧ ∀ n ∈ zs, (Lit.int k n).wf = true

theorem IsRow.at_ {k : IntKind} {w : World} {a : Option Addr} {len cap : Nat} {zs : List Int} (h : IsRow k w a len cap zs) (hk : k = .u8 ∨ k = .u16) (i : Nat) (hi : i < len) :
    ∃ b off z, a = some ⟨b, off, none⟩ ∧ w.cell? ⟨b, off + i, none⟩ = some (.int k (z : Nat)) ∧ z < 65536 ∧ (k = .u8 → z < 256) ∧ b < w.heap.size := by
  rcases h with ⟨_, h, _⟩ | ⟨⟨b, off, spot⟩, rfl, h1, h2, h3, h4, h5⟩
  · omega
  · have hc := h4 i (by omega)
    have hspot : spot = none := by
      have h0 := World.cell?_spot (h4 0 (by omega))
      simpa [Addr.add] using h0
    subst hspot
    have hm : zs.getD i 0 ∈ zs := by
      rw [List.getD_eq_getElem?_getD, List.getElem?_eq_getElem (show i < zs.length by omega)]
      exact List.getElem_mem _
    have hw := h5 _ hm
    have he : (⟨b, off, none⟩ : Addr).add i = ⟨b, off + i, none⟩ := by unfold Addr.add; split <;> simp_all
    rw [he] at hc
    have hb := World.block_lt_of_cell? w _ hc
    generalize zs.getD i 0 = z at *
    rcases hk with rfl | rfl
    · have : 0 ≤ z ∧ z < 256 := by
        simp [Lit.wf, IntKind.min, IntKind.max, IntKind.signed, IntKind.bits] at hw
        omega
      exact ⟨b, off, z.toNat, rfl, by rw [Int.toNat_of_nonneg this.1]; exact hc, by omega, fun _ => by omega, hb⟩
    · have : 0 ≤ z ∧ z < 65536 := by
        simp [Lit.wf, IntKind.min, IntKind.max, IntKind.signed, IntKind.bits] at hw
        omega
      exact ⟨b, off, z.toNat, rfl, by rw [Int.toNat_of_nonneg this.1]; exact hc, by omega, fun h => (by cases h), hb⟩

theorem Reach.put {m : List (Int × Value)} {g : Nat → Option Nat} (h : Reach m g) (k x : Nat) : Reach (mput m k (.int .u64 x)) (fun n => if n = k then some x else g n) := by
  intro n
  by_cases e : n = k
  · subst e
    simp [mget_mput_same]
  · rw [mget_mput_other _ _ _ (by omega), h n]
    simp [e]

def RelM (MB : Nat) (wr : World) : Prop := ∃ m g, IntMap wr MB m ∧ Reach m g

theorem putObj_below {w : World} {B b : Nat} (hb : B ≤ b) (o : Obj) : Below B w (w.putObj b o) := ⟨rfl, rfl, rfl, by simp, fun k hk => World.putObj_heap_other (by omega)⟩

set_option maxRecDepth 100000 in
set_option maxHeartbeats 4000000 in
theorem law_main (b : Nat) (hb : b < 2 ^ 64) (A1 : Option Addr) (n1 c1 : Nat) (z1 : List Int) (A2 : Option Addr) (n2 c2 : Nat) (z2 : List Int) (w : World) (hT : Tab w)
    (h1 : IsRow .u8 w A1 n1 c1 z1) (h2 : IsRow .u16 w A2 n2 c2 z2) (hn1 : n1 ≤ 100) (hn2 : n2 ≤ 100) :
    Calls Tryd.prog 3 #[.int .u64 b, .slice A1 n1 c1, .slice A2 n2 c2] w fun e w' => e = .returned (.bool true) ∧ Below w.heap.size w w' := by
  have hmm := @run_makeMap Tryd.prog
  have hd1 : decide ((100 : Int) < (n1 : Int)) = false := by simp only [decide_eq_false_iff_not]; omega
  have hd2 : decide ((100 : Int) < (n2 : Int)) = false := by simp only [decide_eq_false_iff_not]; omega
  go_enter Tryd.func3, Tryd.ntmps3
  go_wp2_with (go_at_call 4; refine (shown_any _).mono ?_; rintro e w1 ⟨rfl, hB1⟩)
  have hB2 : Below w.heap.size w (w1.alloc (.map #[] 0)) := hB1.alloc hB1.size _
  go_loopw [8] (fun i wr => ∃ k : Nat, k ≤ 100 ∧ i = .int .i64 k ∧ RelM w1.heap.size wr ∧ Below w.heap.size w wr) (fun i _ => 100 - (intOf i).toNat)
  case atStart => exact ⟨0, by omega, rfl, ⟨[], fun _ => none, IntMap.made _, fun _ => rfl⟩, hB2⟩
  case round =>
    obtain ⟨k, hk, rfl, hM, hB⟩ := hrel
    by_cases hlt : k < n1 ∧ k < n2
    · obtain ⟨hl1, hl2⟩ := hlt
      have hi1 : (k : Int) < (n1 : Int) := by omega
      have hi2 : (k : Int) < (n2 : Int) := by omega
      have hi0 : (0 : Int) ≤ (k : Int) := by omega
      obtain ⟨p, off, x, rfl, hx, hx1, hx2, hp⟩ := h1.at_ (.inl rfl) k hl1
      obtain ⟨q, off2, y, rfl, hy, hy1, _, hq⟩ := h2.at_ (.inr rfl) k hl2
      have hx3 := hx2 rfl
      have hxr := (hB.cell (p := ⟨p, off + k, none⟩) hp).trans hx
      have hyr := (hB.cell (p := ⟨q, off2 + k, none⟩) hq).trans hy
      obtain ⟨m, g, hm, hg⟩ := hM
      obtain ⟨o, hu, hm'⟩ := run_update (P := Tryd.prog) (w := wr.drew) Tryd.underlying26 Tryd.underlying3 hm (((x % 64 : Nat) : Int)) (.int .u64 y)
      rw [show ((x % 64 : Nat) : Int) = (x : Int) % 64 from by omega] at hu
      have hmlt := hm.lt
      have hwlt := hB.size
      have HM : Hid (RelM w1.heap.size (wr.drew.putObj w1.heap.size o)) := Lib.hid ⟨_, _, hm', hg.put _ _⟩
      have HB : Hid (Below w.heap.size w (wr.drew.putObj w1.heap.size o)) := Lib.hid (hB.drew.trans (putObj_below hB1.size o))
      clear hm' hm hg
      have hxi : (0 : Int) ≤ (x : Int) := by omega
      have hxi2 : (x : Int) ≤ 255 := by omega
      have hyi2 : (y : Int) ≤ 65535 := by omega
      go_wp2_with fail
      go_region
      go_wp2
      go_roundw
      case rel => exact ⟨k + 1, by omega, by go_num, HM.out, HB.out⟩
      case measure => simp [intOf]; omega
    · obtain ⟨m, g, hm, hg⟩ := hM
      have HG := Lib.hid hg
      clear hg
      have hTr : Tab wr := hT.below hB
      have hexit : Hid (k < n1 → ¬ k < n2) := Lib.hid (fun h h' => hlt ⟨h, h'⟩)
      clear hlt
      generalize hL : bandL b = L
      have HL := Lib.hid hL
      clear hL
      have hlen := bandL_length b
      rw [HL.out] at hlen
      have hcs : (decide (k < n1) = true ∧ decide (k < n2) = false) ∨ decide (k < n1) = false := by
        simp only [decide_eq_true_eq, decide_eq_false_iff_not]
        have := hexit.out
        omega
      rcases hcs with ⟨hi1, hi2⟩ | hi1
      all_goals
        go_wp2_with fail
        refine (stable_any b hb w1.heap.size m g wr hTr hm HG.out).mono ?_
        rw [HL.out]
        rintro e w2 ⟨rfl, hB3⟩
        have hm2 : IntMap w2 w1.heap.size m := hm.below hB3 hm.lt
        have hBw2 : Below w.heap.size w w2 := hB.trans (hB3.mono hB.size)
        go_wp2_with fail
        refine (refList_any b hb w2).mono ?_
        rw [HL.out]
        rintro e w3 ⟨v, rfl, hown, hB4⟩
        obtain ⟨A, c, rfl⟩ := owns_form hown
        have hm3 : IntMap w3 w1.heap.size m := hm2.below hB4 hm2.lt
        have hBw3 : Below w.heap.size w w3 := hBw2.trans (hB4.mono hBw2.size)
        generalize hS : stab g L = S
        have HS := Lib.hid hS
        clear hS
        have hend := Lib.hid (just_end g L)
        by_cases hL0 : L.length = 0
        · have hL0' : ((L.length : Int) == 0) = true := by simp [hL0]
          obtain rfl : S = 0 := by
            rw [← HS.out, List.length_eq_zero_iff.1 hL0]
            simp [stab, upTo, minL]
          go_wp2_with fail
          refine wp_loop_rounds 1 ?_
          rw [rounds_succ]
          go_wp2_with fail
          refine (refStable_any b hb w1.heap.size m g w3 hm3 HG.out).mono ?_
          rw [HL.out, HS.out]
          rintro e w4 ⟨rfl, hB5⟩
          go_wp2
          go_ret
          exact ⟨rfl, hBw3.trans (hB5.mono hBw3.size)⟩
        · have hL0' : ((L.length : Int) == 0) = false := by rw [beq_eq_false_iff_ne]; omega
          have hj0 : just g L 0 = false := by simp [just, hL0]
          go_wp2_with fail
          go_loop [11, 12] (fun t i => ∃ k : Nat, k ≤ L.length ∧ i = .int .i64 k ∧ t = .bool (just g L k)) (fun _ i => L.length - (intOf i).toNat)
          case atStart => exact ⟨0, Nat.zero_le _, rfl, by rw [hj0]⟩
          case round =>
            obtain ⟨i, hi, rfl, rfl⟩ := hrel
            clear hj0
            by_cases hil : i < L.length
            · obtain ⟨a, rfl, hcell⟩ := owns_at hown i hil
              generalize hy : L.getD i 0 = y at *
              have hlk := run_lookup (P := Tryd.prog) Tryd.underlying26 Tryd.underlying3 (zero22 w3) hm3 (y : Nat) true
              rw [HG.out] at hlk
              have HY := Lib.hid hy
              clear hy
              generalize hj : just g L i = jb
              have HJ := Lib.hid hj
              clear hj
              cases hgy : g y with
              | none =>
                rw [hgy] at hlk
                simp at hlk
                obtain rfl : S = 0 := by rw [← HS.out]; exact stab_none g L i hil (by rw [HY.out]; exact hgy)
                have HN : Hid (just g L (i + 1) = true) := Lib.hid (by rw [just_succ]; simp [good, HY.out, hgy]; right; rw [← List.getD_eq_getElem?_getD, HY.out, hgy])
                clear hgy
                cases jb
                all_goals
                  go_wp2
                  go_round
                  case rel => exact ⟨i + 1, by omega, by go_num, by rw [HN.out]⟩
                  case measure => simp [intOf]; omega
              | some x =>
                rw [hgy] at hlk
                simp at hlk
                have hxS : decide (x < S) = false := by
                  have := stab_le g L i hil x (by rw [HY.out]; exact hgy)
                  rw [HS.out] at this
                  simp; omega
                have HN : Hid (just g L (i + 1) = (jb || x == S)) := Lib.hid (by rw [just_succ, HJ.out]; unfold good; rw [HY.out, hgy]; simp only [HS.out])
                clear hgy
                by_cases hxe : x = S
                · have he : ((x : Int) == (S : Int)) = true := by simp [hxe]
                  have he2 : (x == S) = true := by simp [hxe]
                  rw [he2] at HN
                  clear hxe
                  cases jb
                  all_goals
                    go_wp2
                    go_round
                    case rel => exact ⟨i + 1, by omega, by go_num, by rw [HN.out]; simp [*]⟩
                    case measure => simp [intOf]; omega
                · have he : ((x : Int) == (S : Int)) = false := by simp; omega
                  have he2 : (x == S) = false := by simp [hxe]
                  rw [he2] at HN
                  clear hxe
                  cases jb
                  all_goals
                    go_wp2
                    go_round
                    case rel => exact ⟨i + 1, by omega, by go_num, by rw [HN.out]; simp [*]⟩
                    case measure => simp [intOf]; omega
            · obtain rfl : i = L.length := by omega
              have hjt := hend.out
              go_wp2_with fail
              refine (refStable_any b hb w1.heap.size m g w3 hm3 HG.out).mono ?_
              rw [HL.out, HS.out]
              rintro e w4 ⟨rfl, hB5⟩
              go_wp2
              go_ret
              exact ⟨rfl, hBw3.trans (hB5.mono hBw3.size)⟩
end Go.Proofs.YtilfngegmdedpaaDoor
