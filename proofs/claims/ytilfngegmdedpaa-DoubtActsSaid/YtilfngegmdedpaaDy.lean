/- DoubtActs: both doubts go together, whatever is done with them. -/
import Derived.Test.YtilfngegmdedpaaDx
import Derived.Deep.RegionHeld3
import Derived.Laws.Entries
set_option linter.unusedVariables false
set_option linter.unusedSimpArgs false
namespace Go.Proofs.Ytilfngegmdedpaa
open Go.RowKit Go.Shelf Go.Proofs
attribute [local go_sem] Oper.semAt_some

theorem run_store_fl (P : Program) (w : World) (a : Addr) (m : Mode) (k : FloatKind) (b : Nat) : (store a (.float k b) m).run P w = stored P w a (.float k b) m := run_store P w a _ m rfl
attribute [local go_sem] run_store_fl
/-- An act's cells. -/
def ActAt (w : World) (b o : Nat) : Prop := ∃ (kind n nodes node st : Int) (inc now base : Nat), nodes ≤ 9223372036854775807 ∧ inc < 2 ^ 64 ∧ now < 2 ^ 64 ∧ base < 18446744073709551616 ∧
  w.cell? ⟨b, o, none⟩ = some (.int .i64 kind) ∧ w.cell? ⟨b, o + 1, none⟩ = some (.int .i64 n) ∧ w.cell? ⟨b, o + 2, none⟩ = some (.int .i64 nodes) ∧ w.cell? ⟨b, o + 3, none⟩ = some (.int .i64 node) ∧
  w.cell? ⟨b, o + 4, none⟩ = some (.int .u64 inc) ∧ w.cell? ⟨b, o + 5, none⟩ = some (.int .i64 st) ∧ w.cell? ⟨b, o + 6, none⟩ = some (.int .u64 now) ∧ w.cell? ⟨b, o + 7, none⟩ = some (.float .f64 base)
def IsActs (w : World) (A : Option Addr) (n : Nat) : Prop := n = 0 ∨ ∃ b off, A = some ⟨b, off, none⟩ ∧ b < w.heap.size ∧ ∀ k, k < n → ActAt w b (off + k * 8)

theorem j_new {w w1 : World} (h : Below w.heap.size w w1) : J w ((w1.alloc (.cells #[.map none] 27)).alloc (.cells #[.slice none 0 0] 31)) w1.heap.size (w1.heap.size + 1) [] [] := by
  have hs := h.size
  have h1 : Below w1.heap.size w1 (w1.alloc (.cells #[.map none] 27)) := (Below.refl _ w1).alloc (Nat.le_refl _) _
  have h2 : Below (w1.alloc (.cells #[.map none] 27)).heap.size (w1.alloc (.cells #[.map none] 27)) ((w1.alloc (.cells #[.map none] 27)).alloc (.cells #[.slice none 0 0] 31)) := (Below.refl _ _).alloc (Nat.le_refl _) _
  have hz : (w1.alloc (.cells #[.map none] 27)).heap.size = w1.heap.size + 1 := by simp
  have hR := rm_new (w1.alloc (.cells #[.map none] 27))
  rw [hz] at hR
  refine ⟨none, .slice none 0 0, (dm_new w1).below h2 (Nat.le_refl _), hR, (h.trans (h1.mono hs)).trans (h2.mono (by omega)), ?_, ?_⟩
  · rintro k (rfl | hk)
    · exact hs
    · cases hk
  · rintro k (rfl | hk)
    · omega
    · cases hk

set_option maxRecDepth 100000 in
set_option maxHeartbeats 16000000 in
theorem acts_main (A : Option Addr) (n c : Nat) (w : World) (hn : n ≤ 150) (hA : IsActs w A n) :
    Calls Try.prog 3 #[.slice A n c] w fun e w' => e = .returned (.bool true) ∧ Below w.heap.size w w' := by
  have hnn : (n : Int) ≤ 150 := by omega
  have hgt : decide ((150 : Int) < (n : Int)) = false := by simp; omega
  go_enter Try.func3, Try.ntmps3
  go_wp2_with (go_at_call 5; refine (shown_any _).mono ?_; rintro e w1 ⟨rfl, hB1⟩)
  have hJ0 := j_new hB1
  have hDd : w1.heap.size ≤ w1.heap.size := Nat.le_refl _
  generalize hDD : w1.heap.size = Dd at *
  clear hDD
  go_loopw [5] (fun i wr => ∃ k : Nat, k ≤ n ∧ i = .int .i64 k ∧ ∃ l l', J w wr Dd (Dd + 1) l l' ∧ SameL l l') (fun i _ => n - (intOf i).toNat)
  case atStart => exact ⟨0, Nat.zero_le _, rfl, [], [], hJ0, fun _ => rfl⟩
  case round =>
    obtain ⟨k, hk, rfl, l, l', hJ, hS⟩ := hrel
    obtain ⟨hu, hu'⟩ := hJ.uniq
    have HU := Lib.hid hu
    have HU' := Lib.hid hu'
    clear hu hu' hJ0
    by_cases hkl : k < n
    · obtain ⟨b, off, rfl, hb, hacts⟩ : ∃ b off, A = some ⟨b, off, none⟩ ∧ b < w.heap.size ∧ ∀ k, k < n → ActAt w b (off + k * 8) := by
        rcases hA with h0 | hA
        · omega
        · exact hA
      obtain ⟨kind, nn, nodes, node, st, inc, now, base, hnodes, hinc, hnow, hbase, c0, c1, c2, c3, c4, c5, c6, c7⟩ := hacts k hkl
      have hold := hJ.old
      have hw : ∀ o, wr.cell? ⟨b, o, none⟩ = w.cell? ⟨b, o, none⟩ := fun o => hold.cell (p := ⟨b, o, none⟩) hb
      rw [← hw] at c0 c1 c2 c3 c4 c5 c6 c7
      have hkn : (k : Int) < (n : Int) := by omega
      have hJx := hJ.below ((Below.refl _ wr).alloc (Nat.le_refl _) (.cells #[.int .i64 kind, .int .i64 nn, .int .i64 nodes, .int .i64 node, .int .u64 inc, .int .i64 st, .int .u64 now, .float .f64 base] 37))
      have bX := BoxC.new wr 37 #[.int .i64 kind, .int .i64 nn, .int .i64 nodes, .int .i64 node, .int .u64 inc, .int .i64 st, .int .u64 now, .float .f64 base]
      clear hacts hw hold hA hB1
      by_cases k0 : kind = 0
      · subst k0
        obtain ⟨o, e0, f0, hr0⟩ : ∃ o b x, rres l node st nn inc now base nodes = (o, b, x) := ⟨_, _, _, rfl⟩
        have hr := Lib.hid hr0
        have hr' := Lib.hid ((hS.rres node st nn inc now base nodes).trans hr0)
        clear hr0
        have hS2 : SameL (lstep l o) (lstep l' o) := hS.step HU.out HU'.out o
        go_wp2_with (first
          | (go_at_call 6; refine (j_raise hJx node st nn inc now nodes base hbase hnodes hnow hinc e0 f0 o hr).mono ?_; rintro e w2 ⟨rfl, hJ2, hst2⟩; have bX2 := hst2.box bX (by decide) (by decide) (by decide); have x1 := bX2.cell 1; have x2 := bX2.cell 2; have x3 := bX2.cell 3; have x4 := bX2.cell 4; have x5 := bX2.cell 5; have x6 := bX2.cell 6; have x7 := bX2.cell 7; simp at x1 x2 x3 x4 x5 x6 x7)
          | (go_at_call 7; refine (j_rraise hJ2 node st nn inc now nodes base hbase hnodes hnow hinc e0 f0 o hr').mono ?_; rintro e w3 ⟨rfl, ⟨l2, hJz, hlz⟩, hst3⟩; obtain ⟨L, hL⟩ : ∃ L, Hid (L = lall (lstep l o)) := ⟨_, Lib.hid rfl⟩; have hS3 : SameL (lstep l o) l2 := fun m => (hS2 m).trans (hlz m).symm; have hL' : Hid (L = lall l2) := Lib.hid (hL.out.trans hS3.all); have hL64 : L.length ≤ 64 := (by rw [hL.out]; exact lall_len _))
          | (go_at_call 15; refine (j_all hJz hL).mono ?_; rintro e wa ⟨A1, c1, rfl, hra, hba⟩; have hJa := hJz.below hba)
          | (go_at_call 14; refine (j_theirs hra hL64).mono ?_; rintro e wb ⟨A2, c2, rfl, hrb, hbb⟩; have hJb := hJa.below hbb)
          | (go_at_call 16; refine (j_rall hJb hL').mono ?_; rintro e wc ⟨A3, c3, rfl, hrc, hbc⟩; have hrb' := rowKeep hrb hbc; have hJc := hJb.below hbc)
          | (go_at_call 13; refine (same10_any _ _ _ _ _ _ _ L hrb' hrc hL64).mono ?_; rintro e wd ⟨rfl, m, rfl⟩))
        exact ⟨⟨k + 1, by omega, by go_num, _, _, hJc.below ⟨rfl, rfl, rfl, Nat.le_refl _, fun _ _ => rfl⟩, hS3⟩, by simp [intOf]; omega⟩
      · by_cases k1 : kind = 1
        · subst k1
          obtain ⟨q0, hq0⟩ : ∃ b, b = (lget l nn).isSome := ⟨_, rfl⟩
          have hq := Lib.hid hq0
          have hq' := Lib.hid (hq0.trans (congrArg Option.isSome (hS nn)))
          have hS3 : SameL (ldel l nn) (lnot l' nn) := hS.drop HU.out nn
          obtain ⟨L, hL⟩ : ∃ L, Hid (L = lall (ldel l nn)) := ⟨_, Lib.hid rfl⟩
          have hL' : Hid (L = lall (lnot l' nn)) := Lib.hid (hL.out.trans hS3.all)
          have hL64 : L.length ≤ 64 := by rw [hL.out]; exact lall_len _
          have x1 : (wr.alloc (.cells #[.int .i64 1, .int .i64 nn, .int .i64 nodes, .int .i64 node, .int .u64 inc, .int .i64 st, .int .u64 now, .float .f64 base] 37)).cell? ⟨wr.heap.size, 1, none⟩ = some (.int .i64 nn) := bX.cell 1
          clear hq0
          go_wp2_with fail
          have hJx := hJx.drew
          have bX : BoxC (wr.alloc (.cells #[.int .i64 1, .int .i64 nn, .int .i64 nodes, .int .i64 node, .int .u64 inc, .int .i64 st, .int .u64 now, .float .f64 base] 37)).drew wr.heap.size 37 #[.int .i64 1, .int .i64 nn, .int .i64 nodes, .int .i64 node, .int .u64 inc, .int .i64 st, .int .u64 now, .float .f64 base] := bX
          go_region_held3 (fun w' => w'.cell? ⟨wr.heap.size, 1, none⟩ = some (.int .i64 nn)) (first | exact kx | go_keep)
            (first
              | (go_at_call 8; refine (j_drop hJx nn q0 hq).mono ?_; rintro e w2 ⟨rfl, hJx, hst⟩; have bX := hst.box bX (by decide) (by decide) (by decide); have kx : w2.cell? ⟨wr.heap.size, 1, none⟩ = some (.int .i64 nn) := bX.cell 1)
              | (go_at_call 9; refine (j_rdrop hJx nn q0 hq').mono ?_; rintro e w2 ⟨rfl, hJx, hst⟩; have bX := hst.box bX (by decide) (by decide) (by decide); have kx : w2.cell? ⟨wr.heap.size, 1, none⟩ = some (.int .i64 nn) := bX.cell 1))
          all_goals
            have hJz := hJx
            go_wp2_with (first
                | (go_at_call 15; refine (j_all hJz hL).mono ?_; rintro e wa ⟨A1, c1, rfl, hra, hba⟩; have hJa := hJz.below hba)
                | (go_at_call 14; refine (j_theirs hra hL64).mono ?_; rintro e wb ⟨A2, c2, rfl, hrb, hbb⟩; have hJb := hJa.below hbb)
                | (go_at_call 16; refine (j_rall hJb hL').mono ?_; rintro e wc ⟨A3, c3, rfl, hrc, hbc⟩; have hrb' := rowKeep hrb hbc; have hJc := hJb.below hbc)
                | (go_at_call 13; refine (same10_any _ _ _ _ _ _ _ L hrb' hrc hL64).mono ?_; rintro e wd ⟨rfl, m, rfl⟩))
            exact ⟨⟨k + 1, by omega, by go_num, _, _, hJc.below ⟨rfl, rfl, rfl, Nat.le_refl _, fun _ _ => rfl⟩, hS3⟩, by simp [intOf]; omega⟩
        · by_cases k2 : kind = 2
          · subst k2
            obtain ⟨O, hO0⟩ : ∃ O, O = overs (lall l) now := ⟨_, rfl⟩
            have hO := Lib.hid hO0
            have hO' := Lib.hid (hO0.trans (congrArg (fun z => overs z now) hS.all))
            have hO64 : O.length ≤ 64 := by
              rw [hO0]
              exact Nat.le_trans (List.length_filter_le _ _) (lall_len l)
            have hS3 : SameL (odel l (lall l) now) (odelN l' (lall l') now) := hS.over HU.out now
            obtain ⟨L, hL⟩ : ∃ L, Hid (L = lall (odel l (lall l) now)) := ⟨_, Lib.hid rfl⟩
            have hL' : Hid (L = lall (odelN l' (lall l') now)) := Lib.hid (hL.out.trans hS3.all)
            have hL64 : L.length ≤ 64 := by rw [hL.out]; exact lall_len _
            have x6 : (wr.alloc (.cells #[.int .i64 2, .int .i64 nn, .int .i64 nodes, .int .i64 node, .int .u64 inc, .int .i64 st, .int .u64 now, .float .f64 base] 37)).cell? ⟨wr.heap.size, 6, none⟩ = some (.int .u64 now) := bX.cell 6
            clear hO0
            go_wp2_with fail
            have hJx := hJx.drew
            have bX : BoxC (wr.alloc (.cells #[.int .i64 2, .int .i64 nn, .int .i64 nodes, .int .i64 node, .int .u64 inc, .int .i64 st, .int .u64 now, .float .f64 base] 37)).drew wr.heap.size 37 #[.int .i64 2, .int .i64 nn, .int .i64 nodes, .int .i64 node, .int .u64 inc, .int .i64 st, .int .u64 now, .float .f64 base] := bX
            have hRp : True := trivial
            have hRr : True := trivial
            go_region_held3 (fun w' => w'.cell? ⟨wr.heap.size, 6, none⟩ = some (.int .u64 now)) (first | exact kx | go_keep)
              (first
                | (go_at_call 11; refine (j_over hJx now hO).mono ?_; rintro e w2 ⟨Ap, cp, rfl, hRp, hJx, hst⟩; have bX := hst.box bX (by decide) (by decide) (by decide); have kx : w2.cell? ⟨wr.heap.size, 6, none⟩ = some (.int .u64 now) := bX.cell 6; have hRr' := hRr; try (have hRr := hst.row hRr (by decide) (by decide) (by decide)))
                | (go_at_call 12; refine (j_rover hJx now hO').mono ?_; rintro e w2 ⟨Ar, cr, rfl, hRr, hJx, hst⟩; have bX := hst.box bX (by decide) (by decide) (by decide); have kx : w2.cell? ⟨wr.heap.size, 6, none⟩ = some (.int .u64 now) := bX.cell 6; try (have hRp := hst.row hRp (by decide) (by decide) (by decide)))
                | (go_at_call 10; refine (same7_any _ _ _ _ _ _ _ O hRp hRr hO64).mono ?_; rintro e w7 ⟨rfl, m7, rfl⟩; have hJx : J w (w2.drewN m7) Dd (Dd + 1) _ _ := hJx.below ⟨rfl, rfl, rfl, Nat.le_refl _, fun _ _ => rfl⟩; have kx : (w2.drewN m7).cell? ⟨wr.heap.size, 6, none⟩ = some (.int .u64 now) := kx))
            all_goals
              have hJz := hJx
              go_wp2_with (first
                | (go_at_call 15; refine (j_all hJz hL).mono ?_; rintro e wa ⟨A1, c1, rfl, hra, hba⟩; have hJa := hJz.below hba)
                | (go_at_call 14; refine (j_theirs hra hL64).mono ?_; rintro e wb ⟨A2, c2, rfl, hrb, hbb⟩; have hJb := hJa.below hbb)
                | (go_at_call 16; refine (j_rall hJb hL').mono ?_; rintro e wc ⟨A3, c3, rfl, hrc, hbc⟩; have hrb' := rowKeep hrb hbc; have hJc := hJb.below hbc)
                | (go_at_call 13; refine (same10_any _ _ _ _ _ _ _ L hrb' hrc hL64).mono ?_; rintro e wd ⟨rfl, m, rfl⟩))
              exact ⟨⟨k + 1, by omega, by go_num, _, _, hJc.below ⟨rfl, rfl, rfl, Nat.le_refl _, fun _ _ => rfl⟩, hS3⟩, by simp [intOf]; omega⟩
          · have b0 : (kind == 0) = false := by simp [k0]
            have b1 : (kind == 1) = false := by simp [k1]
            have b2 : (kind == 2) = false := by simp [k2]
            have hJz := hJx
            have hS3 := hS
            obtain ⟨L, hL⟩ : ∃ L, Hid (L = lall l) := ⟨_, Lib.hid rfl⟩
            have hL' : Hid (L = lall l') := Lib.hid (hL.out.trans hS3.all)
            have hL64 : L.length ≤ 64 := by rw [hL.out]; exact lall_len _
            go_wp2_with (first
                | (go_at_call 15; refine (j_all hJz hL).mono ?_; rintro e wa ⟨A1, c1, rfl, hra, hba⟩; have hJa := hJz.below hba)
                | (go_at_call 14; refine (j_theirs hra hL64).mono ?_; rintro e wb ⟨A2, c2, rfl, hrb, hbb⟩; have hJb := hJa.below hbb)
                | (go_at_call 16; refine (j_rall hJb hL').mono ?_; rintro e wc ⟨A3, c3, rfl, hrc, hbc⟩; have hrb' := rowKeep hrb hbc; have hJc := hJb.below hbc)
                | (go_at_call 13; refine (same10_any _ _ _ _ _ _ _ L hrb' hrc hL64).mono ?_; rintro e wd ⟨rfl, m, rfl⟩))
            exact ⟨⟨k + 1, by omega, by go_num, _, _, hJc.below ⟨rfl, rfl, rfl, Nat.le_refl _, fun _ _ => rfl⟩, hS3⟩, by simp [intOf]; omega⟩
    · obtain rfl : k = n := by omega
      obtain ⟨L, hL⟩ : ∃ L, Hid (L = lall l) := ⟨_, Lib.hid rfl⟩
      have hL' : Hid (L = lall l') := Lib.hid (hL.out.trans hS.all)
      have hL64 : L.length ≤ 64 := by rw [hL.out]; exact lall_len l
      go_wp2_with (first
        | (go_at_call 15; refine (j_all hJ hL).mono ?_; rintro e wa ⟨A1, c1, rfl, hra, hba⟩; have hJa := hJ.below hba)
        | (go_at_call 14; refine (j_theirs hra hL64).mono ?_; rintro e wb ⟨A2, c2, rfl, hrb, hbb⟩; have hJb := hJa.below hbb)
        | (go_at_call 16; refine (j_rall hJb hL').mono ?_; rintro e wc ⟨A3, c3, rfl, hrc, hbc⟩; have hrb' := rowKeep hrb hbc; have hJc := hJb.below hbc)
        | (go_at_call 13; refine (same10_any _ _ _ _ _ _ _ L hrb' hrc hL64).mono ?_; rintro e wd ⟨rfl, m, rfl⟩))
      go_ret
      exact ⟨rfl, hJc.old.trans ⟨rfl, rfl, rfl, Nat.le_refl _, fun _ _ => rfl⟩⟩
end Go.Proofs.Ytilfngegmdedpaa
