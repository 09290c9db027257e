/- Contracts of Wait and Ticks, the program's and the document's. -/
import Derived.Test.YtilfngegmdedpaaRw
set_option linter.unusedVariables false
set_option linter.unusedSimpArgs false
namespace Go.Proofs.Ytilfngegmdedpaa
open Go.RowKit Go.Shelf Go.Proofs
attribute [local go_sem] Oper.semAt_some

@[local go_sem] theorem run_store_float {P : Program} {w : World} {a : Addr} {m : Mode} (k : FloatKind) (b : Nat) : (store a (.float k b) m).run P w = stored P w a (.float k b) m := run_store P w a _ m rfl

/-- How long, for three who are to tell it. -/
def wB (base : Nat) (n told : Int) : Nat := Fl.waitB (Fl.cleanB base) (kB n) told

set_option maxHeartbeats 4000000 in
theorem wait_any (base : Nat) (hb : base < 18446744073709551616) (n told : Int) (hn : n ≤ 9223372036854775807) (w : World) :
    Calls Try.prog 33 #[.float .f64 base, .int .i64 n, .int .i64 told, .int .i64 3] w fun e w' => e = .returned (.float .f64 (wB base n told)) ∧ Below w.heap.size w w' := by
  have hl := Fl.cleanB_le base hb
  unfold wB
  generalize hL : Fl.cleanB base = l at hl ⊢
  have HL := Lib.hid hL
  clear hL
  have hk := kB_le n hn
  obtain ⟨c, r, h1, h2, h3, -, -⟩ := raw_runs l (kB n) hl hk
  have hcv : floatOfInt .f64 ((kB n : Nat) : Int) = c := h1
  go_enter Try.func33, Try.ntmps33
  go_wp2_with (go_at_call 40; refine (clean_any base _).mono ?_; rintro e w1 ⟨rfl, rfl⟩; rw [HL.out])
  have bL := Boxed.new w 35 (.float .f64 l)
  have hB0 : Below w.heap.size w (w.alloc (.cells #[.float .f64 l] 35)) := (Below.refl _ w).alloc (Nat.le_refl _) _
  have hs0 : (w.alloc (.cells #[.float .f64 l] 35)).heap.size = w.heap.size + 1 := by simp
  generalize w.alloc (.cells #[.float .f64 l] 35) = W at *
  have c1 := bL.cell
  have c2 := fun o => (bL.alloc o).cell
  have k2 : ∀ o, Below W.heap.size W (W.alloc o) := fun o => (Below.refl _ W).alloc (Nat.le_refl _) o
  go_region_held3 (fun w' => w'.cell? ⟨w.heap.size, 0, none⟩ = some (.float .f64 l) ∧ Below W.heap.size W w') (first | exact ⟨c1, (Below.refl _ _).drew⟩ | exact ⟨c2 _, (k2 _).drew⟩ | go_keep) (first | (go_at_call 41; refine (bitsOf_any n hn _).mono ?_; rintro e w2 ⟨rfl, rfl⟩))
  all_goals
    have hW : (W.alloc (.cells #[.float .f64 (Fl.great l (kB n))] 35)).drew.heap.size = w.heap.size + 2 := by simp [hs0]
    have cL := (bL.alloc (.cells #[.float .f64 (Fl.great l (kB n))] 35)).cell
    have cG : (W.alloc (.cells #[.float .f64 (Fl.great l (kB n))] 35)).drew.cell? ⟨w.heap.size + 1, 0, none⟩ = some (.float .f64 (Fl.great l (kB n))) := by
      have := (Boxed.new W 35 (.float .f64 (Fl.great l (kB n)))).cell
      rw [hs0] at this
      exact this
    have cL' : (W.alloc (.cells #[.float .f64 (Fl.great l (kB n))] 35)).drew.cell? ⟨w.heap.size, 0, none⟩ = some (.float .f64 l) := cL
    have hBW : Below w.heap.size w (W.alloc (.cells #[.float .f64 (Fl.great l (kB n))] 35)).drew := (hB0.alloc (by omega) _).drew
    clear k2 c2 cL c1 hB0
    generalize (W.alloc (.cells #[.float .f64 (Fl.great l (kB n))] 35)).drew = W2 at *
    have hg := Nat.lt_of_le_of_lt (Fl.great_le l (kB n) hl hk) Fl.K64_top
    have hlg := Fl.le_great l (kB n)
    by_cases ht0 : told ≤ 0
    · have e : Fl.waitB l (kB n) told = Fl.great l (kB n) := by unfold Fl.waitB; rw [if_pos ht0]
      have E := Lib.hid e
      clear e
      go_wp2
      go_ret
      exact ⟨by rw [E.out]; rfl, hBW⟩
    · by_cases ht3 : 3 ≤ told
      · have e : Fl.waitB l (kB n) told = l := by unfold Fl.waitB; rw [if_neg ht0, if_pos ht3]
        have E := Lib.hid e
        clear e
        go_wp2
        go_ret
        exact ⟨by rw [E.out]; rfl, hBW⟩
      · have e : Fl.waitB l (kB n) told = lessB told (Fl.great l (kB n)) l := by unfold Fl.waitB; rw [if_neg ht0, if_neg ht3]; rfl
        have E := Lib.hid e
        clear e
        have hq := run_quo3 35 told (by omega) (by omega)
        go_wp2_with (go_at_call 42; refine (less_any told (Fl.great l (kB n)) l hg hlg (w.heap.size + 1) w.heap.size _ cG cL').mono ?_; rintro e w' ⟨rfl, rfl⟩)
        go_ret
        exact ⟨by rw [E.out]; rfl, hBW⟩

theorem o_ge40 (x : Nat) (h : x ≤ Fl.K64) : (FloatKind.f64.format.order x 4787326403894837248 == some .gt || FloatKind.f64.format.order x 4787326403894837248 == some .eq) = false := by
  have hx := Nat.lt_of_le_of_lt h Fl.K64_top
  rw [o_gt x _ hx (by decide), o_eq x _ hx (by decide)]
  have : Fl.K64 < 4787326403894837248 := by decide
  simp; omega
theorem up_zero : Fl.up 0 = 0 := by unfold Fl.up; rw [show Fl.val 0 = 0 from by decide, Nat.zero_div, Nat.zero_mod]; rfl

theorem toInt_small (x n : Nat) (h : FloatKind.f64.decode x = Ieee.double.read x) (hi : (Ieee.double.read x).toInt .zero = some (n : Int)) (hn : n < 18446744073709551616) : floatToIntVal .f64 x .u64 = some (n : Int) := by
  unfold floatToIntVal
  rw [h, hi]
  have h1 : IntKind.u64.min ≤ (n : Int) := by show (0 : Int) ≤ n; omega
  have h2 : (n : Int) ≤ IntKind.u64.max := by show (n : Int) ≤ 18446744073709551615; omega
  simp [h1, h2]

set_option maxHeartbeats 1000000 in
theorem ticks_any (x : Nat) (h : x ≤ Fl.K64) (w : World) :
    Calls Try.prog 32 #[.float .f64 x] w fun e w' => e = .returned (.int .u64 (Fl.up x)) ∧ w = w' := by
  have hx : Fl.Fin x := Nat.lt_of_le_of_lt h Fl.K64_top
  have h0 := o_gt x 0 hx (by decide)
  have h1 := o_ge40 x h
  have hu := Fl.up_le x h
  have hc := Fl.up_small x hx hu
  have hcv := fun w => run_convert_float_int (P := Try.prog) w 35 32 .f64 .u64 _ _ (by rw [Try.underlying35]; rfl) Try.underlying32 (toInt_small (Fl.rnd (Fl.up x) 0) (Fl.up x) rfl hc.2 (by omega))
  by_cases hz : x = 0
  · subst hz
    rw [up_zero]
    have h0' : (FloatKind.f64.format.order 0 0 == some .gt) = false := by rw [h0]; rfl
    clear h0 hcv
    go_enter Try.func32, Try.ntmps32
    go_wp2
    go_ret
    exact ⟨rfl, rfl⟩
  · have h0' : (FloatKind.f64.format.order x 0 == some .gt) = true := by rw [h0]; simp; omega
    clear h0 hc
    go_enter Try.func32, Try.ntmps32
    go_wp2_with (go_at_call 39; refine (ceil_any x hx _).mono ?_; rintro e w' ⟨rfl, rfl⟩)
    go_ret
    exact ⟨rfl, rfl⟩

set_option maxHeartbeats 1000000 in
theorem rticks_any (x : Nat) (h : x ≤ Fl.K64) (w : World) :
    Calls Try.prog 25 #[.float .f64 x] w fun e w' => e = .returned (.int .u64 (Fl.up x)) ∧ w = w' := by
  have hx : Fl.Fin x := Nat.lt_of_le_of_lt h Fl.K64_top
  have hn : (FloatKind.f64.format.order x x != some .eq) = false := by
    have := o_eq x x hx hx
    simp at this
    simp [this]
  have hlt := o_lt x 0 hx (by decide)
  have heq := o_eq x 0 hx (by decide)
  have h1 := o_ge40 x h
  have hu := Fl.up_le x h
  obtain ⟨hb1, hb2, hb3⟩ := Fl.cut_lt x h
  have hv : Fl.val x / Fl.U ≤ 64000 := by unfold Fl.up at hu; omega
  have hcv := fun w => run_convert_float_int (P := Try.prog) w 35 32 .f64 .u64 _ _ (by rw [Try.underlying35]; rfl) Try.underlying32 (toInt_small x (Fl.val x / Fl.U) rfl (Fl.toInt_eq x hx) (by omega))
  have hci := conv_int (Fl.val x / Fl.U)
  have hol := o_lt _ x hb2 hx
  by_cases hz : x = 0
  · subst hz
    rw [up_zero]
    have h0' : (FloatKind.f64.format.order 0 0 == some .lt || FloatKind.f64.format.order 0 0 == some .eq) = true := by decide
    clear hlt heq hcv hci hol
    go_enter Try.func25, Try.ntmps25
    go_wp2
    go_ret
    exact ⟨rfl, rfl⟩
  · have h0' : (FloatKind.f64.format.order x 0 == some .lt || FloatKind.f64.format.order x 0 == some .eq) = false := by rw [hlt, heq]; simp; omega
    clear hlt heq
    generalize hm : Fl.val x / Fl.U = m at *
    generalize Fl.rnd m 0 = c at *
    by_cases hf : Fl.val x % Fl.U = 0
    · have hol' : (FloatKind.f64.format.order c x == some .lt) = false := by rw [hol]; simp; exact Nat.le_of_not_lt (fun hc => absurd hf (hb1.1 hc))
      have hup : Hid (Fl.up x = m) := Lib.hid (by unfold Fl.up; rw [if_pos hf, hm]; rfl)
      clear hol hb1 hf hm
      go_enter Try.func25, Try.ntmps25
      go_wp2
      go_ret
      exact ⟨by rw [hup.out]; rfl, rfl⟩
    · have hol' : (FloatKind.f64.format.order c x == some .lt) = true := by rw [hol]; simp; exact hb1.2 hf
      have hup : Hid (Fl.up x = m + 1) := Lib.hid (by unfold Fl.up; rw [if_neg hf, hm])
      clear hol hb1 hf hm
      go_enter Try.func25, Try.ntmps25
      go_wp2
      go_ret
      exact ⟨by rw [hup.out]; rfl, rfl⟩

set_option maxHeartbeats 4000000 in
theorem rwait_any (base : Nat) (hb : base < 18446744073709551616) (n told : Int) (hn : n ≤ 9223372036854775807) (w : World) :
    Calls Try.prog 26 #[.float .f64 base, .int .i64 n, .int .i64 told, .int .i64 3] w fun e w' => e = .returned (.float .f64 (wB base n told)) ∧ w = w' := by
  have hl := Fl.cleanB_le base hb
  unfold wB
  generalize hL : Fl.cleanB base = l at hl ⊢
  have HL := Lib.hid hL
  clear hL
  have hk := kB_le n hn
  obtain ⟨c, r, h1, h2, -, hr, hgr⟩ := raw_runs l (kB n) hl hk
  have hcv : floatOfInt .f64 ((kB n : Nat) : Int) = c := h1
  have hg := Nat.lt_of_le_of_lt (Fl.great_le l (kB n) hl hk) Fl.K64_top
  have hlg := Fl.le_great l (kB n)
  have hlt := Nat.lt_of_le_of_lt hl Fl.K3_top
  have hol := o_lt r l hr hlt
  have e1 : Hid (told ≤ 0 → Fl.waitB l (kB n) told = Fl.great l (kB n)) := Lib.hid (fun ht0 => by unfold Fl.waitB; rw [if_pos ht0])
  have e2 : Hid (3 ≤ told → Fl.waitB l (kB n) told = l) := Lib.hid (fun ht => by unfold Fl.waitB; rw [if_neg (by omega), if_pos ht])
  have e3 : Hid (0 < told → told < 3 → Fl.waitB l (kB n) told = lessB told (Fl.great l (kB n)) l) := Lib.hid (fun ht ht2 => by unfold Fl.waitB; rw [if_neg (by omega), if_neg (by omega)]; rfl)
  generalize Fl.waitB l (kB n) told = z at *
  generalize Fl.great l (kB n) = g at *
  obtain ⟨d, c2, r2, m1, m2, m3, -, hr2, hle⟩ := less_runs told g l hg hlg
  have hol2 := o_lt r2 l hr2 hlt
  generalize lessB told g l = y at *
  have hq : 0 < told → told < 3 → ∀ w, _ := run_quo3 35 told
  have HR := Lib.hid hgr
  have HY := Lib.hid hle
  clear hgr hle
  by_cases c1 : r < l
  · have hol' : (FloatKind.f64.format.order r l == some .lt) = true := by rw [hol]; simp [c1]
    obtain rfl : g = l := by rw [HR.out, if_pos c1]
    by_cases ht0 : told ≤ 0
    · have E := Lib.hid (e1.out ht0)
      clear hol hol2 hq
      go_enter Try.func26, Try.ntmps26
      go_wp2_with (first | (go_at_call 35; refine (rclean_any base _).mono ?_; rintro e w1 ⟨rfl, rfl⟩; rw [HL.out]) | (go_at_call 36; refine (rbits_any n hn _).mono ?_; rintro e w1 ⟨rfl, rfl⟩))
      go_ret
      exact ⟨by rw [E.out]; rfl, rfl⟩
    · by_cases ht3 : 3 ≤ told
      · have E := Lib.hid (e2.out ht3)
        clear hol hol2 hq
        go_enter Try.func26, Try.ntmps26
        go_wp2_with (first | (go_at_call 35; refine (rclean_any base _).mono ?_; rintro e w1 ⟨rfl, rfl⟩; rw [HL.out]) | (go_at_call 36; refine (rbits_any n hn _).mono ?_; rintro e w1 ⟨rfl, rfl⟩))
        go_ret
        exact ⟨by rw [E.out]; rfl, rfl⟩
      · have E := Lib.hid (e3.out (by omega) (by omega))
        have hq' := hq (by omega) (by omega)
        clear hq hol
        by_cases c3 : r2 < g
        · have hol2' : (FloatKind.f64.format.order r2 g == some .lt) = true := by rw [hol2]; simp [c3]
          have EY : Hid (y = g) := Lib.hid (by rw [HY.out, if_pos c3])
          clear hol2
          go_enter Try.func26, Try.ntmps26
          go_wp2_with (first | (go_at_call 35; refine (rclean_any base _).mono ?_; rintro e w1 ⟨rfl, rfl⟩; rw [HL.out]) | (go_at_call 36; refine (rbits_any n hn _).mono ?_; rintro e w1 ⟨rfl, rfl⟩))
          go_ret
          exact ⟨by rw [E.out, EY.out]; rfl, rfl⟩
        · have hol2' : (FloatKind.f64.format.order r2 g == some .lt) = false := by rw [hol2]; simp [c3]
          have EY : Hid (y = r2) := Lib.hid (by rw [HY.out, if_neg c3])
          clear hol2
          go_enter Try.func26, Try.ntmps26
          go_wp2_with (first | (go_at_call 35; refine (rclean_any base _).mono ?_; rintro e w1 ⟨rfl, rfl⟩; rw [HL.out]) | (go_at_call 36; refine (rbits_any n hn _).mono ?_; rintro e w1 ⟨rfl, rfl⟩))
          go_ret
          exact ⟨by rw [E.out, EY.out]; rfl, rfl⟩
  · have hol' : (FloatKind.f64.format.order r l == some .lt) = false := by rw [hol]; simp [c1]
    obtain rfl : g = r := by rw [HR.out, if_neg c1]
    by_cases ht0 : told ≤ 0
    · have E := Lib.hid (e1.out ht0)
      clear hol hol2 hq
      go_enter Try.func26, Try.ntmps26
      go_wp2_with (first | (go_at_call 35; refine (rclean_any base _).mono ?_; rintro e w1 ⟨rfl, rfl⟩; rw [HL.out]) | (go_at_call 36; refine (rbits_any n hn _).mono ?_; rintro e w1 ⟨rfl, rfl⟩))
      go_ret
      exact ⟨by rw [E.out]; rfl, rfl⟩
    · by_cases ht3 : 3 ≤ told
      · have E := Lib.hid (e2.out ht3)
        clear hol hol2 hq
        go_enter Try.func26, Try.ntmps26
        go_wp2_with (first | (go_at_call 35; refine (rclean_any base _).mono ?_; rintro e w1 ⟨rfl, rfl⟩; rw [HL.out]) | (go_at_call 36; refine (rbits_any n hn _).mono ?_; rintro e w1 ⟨rfl, rfl⟩))
        go_ret
        exact ⟨by rw [E.out]; rfl, rfl⟩
      · have E := Lib.hid (e3.out (by omega) (by omega))
        have hq' := hq (by omega) (by omega)
        clear hq hol
        by_cases c3 : r2 < l
        · have hol2' : (FloatKind.f64.format.order r2 l == some .lt) = true := by rw [hol2]; simp [c3]
          have EY : Hid (y = l) := Lib.hid (by rw [HY.out, if_pos c3])
          clear hol2
          go_enter Try.func26, Try.ntmps26
          go_wp2_with (first | (go_at_call 35; refine (rclean_any base _).mono ?_; rintro e w1 ⟨rfl, rfl⟩; rw [HL.out]) | (go_at_call 36; refine (rbits_any n hn _).mono ?_; rintro e w1 ⟨rfl, rfl⟩))
          go_ret
          exact ⟨by rw [E.out, EY.out]; rfl, rfl⟩
        · have hol2' : (FloatKind.f64.format.order r2 l == some .lt) = false := by rw [hol2]; simp [c3]
          have EY : Hid (y = r2) := Lib.hid (by rw [HY.out, if_neg c3])
          clear hol2
          go_enter Try.func26, Try.ntmps26
          go_wp2_with (first | (go_at_call 35; refine (rclean_any base _).mono ?_; rintro e w1 ⟨rfl, rfl⟩; rw [HL.out]) | (go_at_call 36; refine (rbits_any n hn _).mono ?_; rintro e w1 ⟨rfl, rfl⟩))
          go_ret
          exact ⟨by rw [E.out, EY.out]; rfl, rfl⟩
end Go.Proofs.Ytilfngegmdedpaa
