/- DoubtSooner: the walk. -/
import Derived.Test.YtilfngegmdedpaaSa
import Derived.Deep.QuietTactic
import Derived.BigQuiet
set_option linter.unusedVariables false
set_option linter.unusedSimpArgs false
namespace Go.Proofs.Ytilfngegmdedpaa
open Go.RowKit Go.Shelf Go.Proofs
attribute [local go_sem] Oper.semAt_some

/-- A row of bytes that is read. -/
def IsBytes (w : World) (A : Option Addr) (n : Nat) : Prop := n = 0 ∨ ∃ b off, A = some ⟨b, off, none⟩ ∧ b < w.heap.size ∧ ∀ k, k < n → ∃ z : Nat, z < 256 ∧ w.cell? ⟨b, off + k, none⟩ = some (.int .u8 z)

/-- What stands ahead of a round. -/
def SoonJ (w wr : World) (Dd k s base : Nat) (nd : Int) (U : Nat) (l : List Dbt) (m : List (Int × Value)) (r : Option Nat) : Prop :=
  ToldInv k s base nd l m U ∧ DM wr Dd r l ∧ IntMap wr (Dd + 1) m ∧ r ≠ some (Dd + 1) ∧ Below w.heap.size w wr ∧ w.heap.size ≤ Dd ∧ ∀ j, r = some j → w.heap.size ≤ j
theorem soon_new {w w1 : World} (h : Below w.heap.size w w1) (s base : Nat) (nd : Int) : SoonJ w ((w1.alloc (.cells #[.map none] 27)).alloc (.map #[] 0)) w1.heap.size 0 s base nd 18446744073709551615 [] [] none := by
  have hs := h.size
  have h1 : Below w1.heap.size w1 (w1.alloc (.cells #[.map none] 27)) := (Below.refl _ w1).alloc (Nat.le_refl _) _
  have hz : (w1.alloc (.cells #[.map none] 27)).heap.size = w1.heap.size + 1 := by simp
  have h2 : Below (w1.alloc (.cells #[.map none] 27)).heap.size (w1.alloc (.cells #[.map none] 27)) ((w1.alloc (.cells #[.map none] 27)).alloc (.map #[] 0)) := (Below.refl _ _).alloc (Nat.le_refl _) _
  have hm := IntMap.made (w1.alloc (.cells #[.map none] 27))
  rw [hz] at hm
  exact ⟨.inl ⟨rfl, rfl, rfl, rfl⟩, (dm_new w1).below h2 (Nat.le_refl _), hm, by simp, (h.trans (h1.mono hs)).trans (h2.mono (by omega)), hs, by simp⟩

/-- One more Raise. -/
theorem soon_raise {w wr : World} {Dd k s base : Nat} {nd : Nat} {l : List Dbt} {m : List (Int × Value)} {r : Option Nat} (hD : DM wr Dd r l) (hm : IntMap wr (Dd + 1) m) (hr : r ≠ some (Dd + 1)) (hB : Below w.heap.size w wr) (hDd : w.heap.size ≤ Dd) (hrl : ∀ j, r = some j → w.heap.size ≤ j)
    (hb : base < 18446744073709551616) (hnd : (nd : Int) ≤ 9223372036854775807) (hs : s + k < 2 ^ 64) (z : Nat) {q : Bool} {o : Option Dbt} {d : Dbt} (hr0 : rres l 9 1 ((z % 64 : Nat) : Int) 4 (s + k) base nd = (o, q, 0)) (hl0 : lstep l o = [d]) :
    Calls Try.prog 6 #[.pointer (some ⟨Dd, 0, none⟩), .agg #[.int .i64 9, .int .u64 4, .int .i64 1], .int .i64 ((z : Int) % 64), .int .u64 ((s : Int) + (k : Int)), .int .i64 nd, .float .f64 base] wr fun e w' =>
      e = .returned (.tuple #[.bool q, .int .i64 0]) ∧ ∃ r', DM w' Dd r' [d] ∧ IntMap w' (Dd + 1) m ∧ r' ≠ some (Dd + 1) ∧ Below w.heap.size w w' ∧ ∀ j, r' = some j → w.heap.size ≤ j := by
  have h := raise_any wr Dd r l hD 9 1 ((z % 64 : Nat) : Int) 4 (s + k) nd base hb hnd hs (by decide)
  rw [hr0] at h
  rw [show ((z % 64 : Nat) : Int) = (z : Int) % 64 from by omega, show ((s + k : Nat) : Int) = (s : Int) + (k : Int) from by omega] at h
  refine h.mono ?_
  rw [hl0]
  rintro e w' ⟨rfl, r', hD', hr', hF⟩
  have hbs := hB.size
  refine ⟨rfl, r', hD', hm.same (hF.block _ hm.lt ?_), ?_, hB.trans (hF.below hbs fun i hi hc => ?_), ?_⟩
  · rintro (h1 | h1)
    · omega
    · exact hr h1.symm
  · rcases hr' with rfl | ⟨b, rfl, hb2⟩
    · exact hr
    · intro h1
      have := hm.lt
      cases h1
      omega
  · rcases hc with rfl | hc
    · omega
    · have := hrl i hc.symm; omega
  · intro j hj
    rcases hr' with rfl | ⟨b, rfl, hb2⟩
    · exact hrl j hj
    · cases hj; omega
theorem zeroB : ∀ w : World, (zeroValue 4).run Try.prog w = .ok (.bool false) w := fun w => by kernel_rfl
theorem lall_d {d : Dbt} (h : d.node = 9) : lall [d] = [d] := by
  obtain ⟨a, b, c, e, f, g⟩ := d
  subst h
  rfl
theorem soon_put {w w3 : World} {Dd : Nat} {r : Option Nat} {l : List Dbt} {o : Obj} (hD : DM w3 Dd r l) (hr : r ≠ some (Dd + 1)) (hB : Below w.heap.size w w3) (hDd : w.heap.size ≤ Dd) : DM (w3.putObj (Dd + 1) o) Dd r l ∧ Below w.heap.size w (w3.putObj (Dd + 1) o) := by
  have f : Fr (fun k => k = Dd + 1) w3 (w3.putObj (Dd + 1) o) := Fr.putObj _ _ _ (S := fun k => k = Dd + 1) rfl
  refine ⟨hD.fr f ?_, hB.trans (f.below hB.size (fun i hi hc => by omega))⟩
  rintro k (rfl | hk) hc
  · omega
  · exact hr (by rw [← hk, hc])

theorem soon_len {W : World} {b dt : Nat} {m : List (Int × Value)} (h : IntMap W b m) (hl : Hid (dt + 1 = m.length)) : ∀ a ty, (Builtin.len_ #[53] ty #[.map (some b)]).run Try.prog (W.drewN a) = .ok (.int .i64 ((dt : Int) + 1)) (W.drewN a) := fun a ty => by
  have := run_len_map (P := Try.prog) (T := 53) Try.underlying53 (h.same (w' := W.drewN a) rfl) ty
  rw [← hl.out] at this
  simpa using this

set_option maxRecDepth 100000 in
set_option maxHeartbeats 16000000 in
theorem sooner_main (A : Option Addr) (n c s nd base : Nat) (w : World) (hn : n ≤ 100) (hn0 : 0 < n) (hs : s < 4294967296) (hnd : nd < 256) (hb : base < 18446744073709551616) (hA : IsBytes w A n) :
    Calls Try.prog 4 #[.slice A n c, .int .u32 s, .int .u8 nd, .float .f64 base] w fun e w' => e = .returned (.bool true) ∧ Below w.heap.size w w' := by
  have hnn : (n : Int) ≤ 100 := by omega
  have hgt : decide ((100 : Int) < (n : Int)) = false := by simp; omega
  have hne : ((n : Int) == 0) = false := by simp; omega
  obtain ⟨b, off, rfl, hbl, hbytes⟩ : ∃ b off, A = some ⟨b, off, none⟩ ∧ b < w.heap.size ∧ ∀ k, k < n → ∃ z : Nat, z < 256 ∧ w.cell? ⟨b, off + k, none⟩ = some (.int .u8 z) := by
    rcases hA with h0 | hA
    · omega
    · exact hA
  have hndn : (nd : Int) ≤ 9223372036854775807 := by omega
  have hs64 : s < 2 ^ 64 := by
    have : (2 : Nat) ^ 64 = 18446744073709551616 := by decide
    omega
  have hmk := fun w => run_makeMap (P := Try.prog) 53 w
  go_enter Try.func4, Try.ntmps4
  go_wp2_with (go_at_call 5; refine (shown_any _).mono ?_; rintro e w1 ⟨rfl, hB1⟩)
  have hJ0 := soon_new hB1 s base nd
  generalize w1.heap.size = Dd at *
  clear hmk
  go_loopw [10, 12] (fun u i wr => ∃ k : Nat, k ≤ n ∧ i = .int .i64 k ∧ ∃ U l m r, u = .int .u64 (U : Nat) ∧ SoonJ w wr Dd k s base nd U l m r) (fun _ i _ => n - (intOf i).toNat)
  case atStart => exact ⟨0, Nat.zero_le _, rfl, 18446744073709551615, [], [], none, rfl, hJ0⟩
  case round =>
    obtain ⟨k, hk, rfl, U, l, m, r, rfl, hT, hD, hm, hr, hB, hDd, hrl⟩ := hrel
    by_cases hkl : k < n
    · obtain ⟨z, hz, c0⟩ := hbytes k hkl
      have hzc : wr.cell? ⟨b, off + k, none⟩ = some (.int .u8 z) := (hB.cell (p := ⟨b, off + k, none⟩) hbl).trans c0
      obtain ⟨q, p, o, d, hr0, hl0, hd1, hd2, hqp, hget, htil, hsd, hsince, hT2, htold⟩ := told_next (n := z % 64) hT (by omega) (by omega) hb hndn hs64
      have hkn : (k : Int) < (n : Int) := by omega
      have hraise := soon_raise hD hm hr hB hDd hrl hb hndn (by have : (2 : Nat) ^ 64 = 18446744073709551616 := by decide
                                                                omega) z hr0 hl0
      have hT3 := hT2
      rcases hT3 with ⟨h0, _⟩ | ⟨_, who, told, hdd, hU', _, htk, _, _⟩
      · omega
      have hall := lall_d hd1
      obtain ⟨e1, e2, dw, e4, dt, til⟩ := d
      simp only [List.cons.injEq, and_true, Dbt.mk.injEq] at hdd
      obtain ⟨rfl, rfl, rfl, rfl, rfl⟩ := hdd
      simp only at htil hsd htold
      clear hU'
      have g1 : decide ((U : Int) < (til : Int)) = false := by simp; omega
      have g2 : decide ((til : Int) < (e4 : Int)) = false := by simp; omega
      have g3 : decide (U < til) = false := by simp; omega
      have g4 : decide (til < e4) = false := by simp; omega
      have HT2 := Lib.hid hT2
      have Hall := Lib.hid hall
      rw [show ((z % 64 : Nat) : Int) = (z : Int) % 64 from by omega] at htold
      have Htold := Lib.hid htold
      rw [show ((z % 64 : Nat) : Int) = (z : Int) % 64 from by omega] at hget
      have Hget := Lib.hid hget
      clear hbytes c0 hT hT2 hr0 hl0 hd1 hd2 hsince hall htold hget
      cases q <;> cases p <;> simp at hqp
      all_goals
        go_wp2_with (first
          | (go_at_call 6; refine hraise.mono ?_; rintro e w2 ⟨rfl, r2, hD2, hm2, hr2, hB2, hrl2⟩; have hal := all_any w2 Dd r2 _ hD2; rw [Hall.out] at hal)
          | (go_at_call 15; refine hal.mono ?_; rintro e w3 ⟨v3, rfl, hrow3, hB3⟩; obtain ⟨A3, c3, rfl⟩ := rowForm hrow3; obtain ⟨a3, rfl, hcells⟩ := rowAt hrow3 (by simp); have u4 := hcells 4 _ rfl; have u5 := hcells 5 _ rfl; have u6 := hcells 6 _ rfl; have hm3 := hm2.below hB3 hm2.lt; have hD3 := hD2.below hB3 (Nat.le_refl _); have hlk := run_lookup (P := Try.prog) (T := 53) Try.underlying53 Try.underlying3 (zeroB w3) hm3 ((z : Int) % 64) false; rw [Hget.out] at hlk; simp at hlk; have hge3 := (rowBlock hrow3 rfl).1; have hlt2 := hm2.lt; obtain ⟨oo, ho, hmo⟩ := run_update (P := Try.prog) (T := 53) Try.underlying53 Try.underlying3 hm3 ((z : Int) % 64) (.bool true); have hne3 : a3 ≠ Dd + 1 := Nat.ne_of_gt (Nat.lt_of_lt_of_le hlt2 hge3); have y5 : (w3.putObj (Dd + 1) oo).cell? ⟨a3, 5, none⟩ = some (.int .u64 dt) := (World.cell?_of_block (w := w3) (World.putObj_heap_other hne3)).trans u5; have y6 : (w3.putObj (Dd + 1) oo).cell? ⟨a3, 6, none⟩ = some (.int .u64 til) := (World.cell?_of_block (w := w3) (World.putObj_heap_other hne3)).trans u6; have hlq := soon_len hmo Htold; clear hcells hal))
        go_quiet (fail)
        go_wp2
        obtain ⟨hD4, hB4⟩ := soon_put (o := oo) hD3 hr2 (hB2.trans (hB3.mono hB2.size)) hDd
        have hq4 : Below (w3.putObj (Dd + 1) oo).heap.size (w3.putObj (Dd + 1) oo) ((w3.putObj (Dd + 1) oo).drewN nq) := ⟨rfl, rfl, rfl, Nat.le_refl _, fun _ _ => rfl⟩
        have hT9 := HT2.out
        rw [show ((z % 64 : Nat) : Int) = (z : Int) % 64 from by omega] at hT9
        exact ⟨⟨k + 1, by omega, by go_num, til, _, _, r2, rfl, hT9, hD4.below hq4 (Nat.le_refl _), hmo.same rfl, hr2, hB4.trans (hq4.mono hB4.size), hDd, hrl2⟩, by simp [intOf]; omega⟩
    · obtain rfl : k = n := by omega
      go_wp2
      go_ret
      exact ⟨rfl, hB⟩
end Go.Proofs.Ytilfngegmdedpaa
