/- Contracts of the functions on reals: Clean, Bits, Wait, Ticks, the program's and the document's. -/
import Derived.Test.YtilfngegmdedpaaFw
import Derived.Test.YtilfngegmdedpaaRows
import Derived.WalkKit
import Derived.WalkSpells
import Derived.WalkLawsBesides
import Derived.Lib.Hide
import Derived.Lib.Strings
import Derived.Lib.Slices
import Derived.Lib.Small
import Derived.Lib.Walk
import Derived.Lib.BitFns
import Derived.Shelf.Sort.So_math_bits_Len64In
import Derived.Shelf.Abstract
import Derived.Shelf.RegionOpen
import Derived.RangeFuncBox
import Derived.Deep.RegionWith
import Derived.Deep.RegionHeld3
import Derived.Deep.QuietTactic
import Derived.BigRegion
set_option linter.unusedVariables false
set_option linter.unusedSimpArgs false
namespace Go.Proofs.Ytilfngegmdedpaa
open Go.RowKit Go.Shelf Go.Proofs
attribute [local go_sem] Oper.semAt_some

set_option maxHeartbeats 1000000 in
theorem isNaN_any (x : Nat) (w : World) :
    Calls Try.prog 56 #[.float .f64 x] w fun e w' => e = .returned (.bool (FloatKind.f64.format.order x x != some .eq)) ∧ w = w' := by
  go_enter Try.func56, Try.ntmps56
  go_wp2
  go_ret
  exact ⟨rfl, rfl⟩

theorem cleanB_eq (x : Nat) : Fl.cleanB x = if (FloatKind.f64.format.order x x != some .eq) = true then 0 else if (FloatKind.f64.format.order x 0 == some .lt) = true then 0
  else if (FloatKind.f64.format.order x 4652007308841189376 == some .gt) = true then 4652007308841189376 else if (FloatKind.f64.format.order x 0 == some .eq) = true then 0 else x := rfl
theorem o_leq : (FloatKind.f64.format.order 0 4652007308841189376 == some .lt || FloatKind.f64.format.order 0 4652007308841189376 == some .eq) = true := by decide
theorem o_n0 : (FloatKind.f64.format.order 0 0 != some .eq) = false := by decide
theorem o_nk : (FloatKind.f64.format.order 4652007308841189376 4652007308841189376 != some .eq) = false := by decide
theorem o_gtr : (FloatKind.f64.format.order 0 4652007308841189376 == some .gt) = false := by decide

set_option maxHeartbeats 4000000 in
theorem clean_any (x : Nat) (w : World) :
    Calls Try.prog 40 #[.float .f64 x, .float .f64 0, .float .f64 4652007308841189376] w fun e w' => e = .returned (.float .f64 (Fl.cleanB x)) ∧ w = w' := by
  have o1 := o_leq
  by_cases h1 : (FloatKind.f64.format.order x x != some .eq) = true
  · have e : Fl.cleanB x = 0 := by rw [cleanB_eq, if_pos h1]
    rw [e]
    go_enter Try.func40, Try.ntmps40
    go_wp2_with (refine (isNaN_any _ _).mono ?_; rintro e w' ⟨rfl, rfl⟩)
    go_ret
    exact ⟨rfl, rfl⟩
  have h1' : (FloatKind.f64.format.order x x != some .eq) = false := by simpa using h1
  by_cases h2 : (FloatKind.f64.format.order x 0 == some .lt) = true
  · have e : Fl.cleanB x = 0 := by rw [cleanB_eq, if_neg h1, if_pos h2]
    rw [e]
    go_enter Try.func40, Try.ntmps40
    go_wp2_with (refine (isNaN_any _ _).mono ?_; rintro e w' ⟨rfl, rfl⟩)
    go_ret
    exact ⟨rfl, rfl⟩
  have h2' : (FloatKind.f64.format.order x 0 == some .lt) = false := by simpa using h2
  by_cases h3 : (FloatKind.f64.format.order x 4652007308841189376 == some .gt) = true
  · have e : Fl.cleanB x = 4652007308841189376 := by rw [cleanB_eq, if_neg h1, if_neg h2, if_pos h3]
    rw [e]
    go_enter Try.func40, Try.ntmps40
    go_wp2_with (refine (isNaN_any _ _).mono ?_; rintro e w' ⟨rfl, rfl⟩)
    go_ret
    exact ⟨rfl, rfl⟩
  have h3' : (FloatKind.f64.format.order x 4652007308841189376 == some .gt) = false := by simpa using h3
  by_cases h4 : (FloatKind.f64.format.order x 0 == some .eq) = true
  · have e : Fl.cleanB x = 0 := by rw [cleanB_eq, if_neg h1, if_neg h2, if_neg h3, if_pos h4]
    rw [e]
    go_enter Try.func40, Try.ntmps40
    go_wp2_with (refine (isNaN_any _ _).mono ?_; rintro e w' ⟨rfl, rfl⟩)
    go_ret
    exact ⟨rfl, rfl⟩
  have h4' : (FloatKind.f64.format.order x 0 == some .eq) = false := by simpa using h4
  have e : Fl.cleanB x = x := by rw [cleanB_eq, if_neg h1, if_neg h2, if_neg h3, if_neg h4]
  rw [e]
  go_enter Try.func40, Try.ntmps40
  go_wp2_with (refine (isNaN_any _ _).mono ?_; rintro e w' ⟨rfl, rfl⟩)
  go_ret
  exact ⟨rfl, rfl⟩

set_option maxHeartbeats 4000000 in
theorem rclean_any (x : Nat) (w : World) :
    Calls Try.prog 35 #[.float .f64 x, .float .f64 0, .float .f64 4652007308841189376] w fun e w' => e = .returned (.float .f64 (Fl.cleanB x)) ∧ w = w' := by
  have o1 := o_n0
  have o2 := o_nk
  have o3 := o_gtr
  by_cases h1 : (FloatKind.f64.format.order x x != some .eq) = true
  · have e : Fl.cleanB x = 0 := by rw [cleanB_eq, if_pos h1]
    rw [e]
    go_enter Try.func35, Try.ntmps35
    go_wp2
    go_ret
    exact ⟨rfl, rfl⟩
  have h1' : (FloatKind.f64.format.order x x != some .eq) = false := by simpa using h1
  by_cases h2 : (FloatKind.f64.format.order x 0 == some .lt) = true
  · have e : Fl.cleanB x = 0 := by rw [cleanB_eq, if_neg h1, if_pos h2]
    rw [e]
    go_enter Try.func35, Try.ntmps35
    go_wp2
    go_ret
    exact ⟨rfl, rfl⟩
  have h2' : (FloatKind.f64.format.order x 0 == some .lt) = false := by simpa using h2
  by_cases h3 : (FloatKind.f64.format.order x 4652007308841189376 == some .gt) = true
  · have e : Fl.cleanB x = 4652007308841189376 := by rw [cleanB_eq, if_neg h1, if_neg h2, if_pos h3]
    rw [e]
    go_enter Try.func35, Try.ntmps35
    go_wp2
    go_ret
    exact ⟨rfl, rfl⟩
  have h3' : (FloatKind.f64.format.order x 4652007308841189376 == some .gt) = false := by simpa using h3
  by_cases h4 : (FloatKind.f64.format.order x 0 == some .eq) = true
  · have e : Fl.cleanB x = 0 := by rw [cleanB_eq, if_neg h1, if_neg h2, if_neg h3, if_pos h4]
    rw [e]
    go_enter Try.func35, Try.ntmps35
    go_wp2
    go_ret
    exact ⟨rfl, rfl⟩
  have h4' : (FloatKind.f64.format.order x 0 == some .eq) = false := by simpa using h4
  have e : Fl.cleanB x = x := by rw [cleanB_eq, if_neg h1, if_neg h2, if_neg h3, if_neg h4]
  rw [e]
  go_enter Try.func35, Try.ntmps35
  go_wp2
  go_ret
  exact ⟨rfl, rfl⟩

set_option maxHeartbeats 4000000 in
set_option maxRecDepth 100000 in
theorem len64_any (x : Int) (w : World) (h0 : 0 ≤ x) (h1 : x ≤ 18446744073709551615) :
    Calls Try.prog 53 #[.int .u64 x] w fun e w' => e = .returned (.int .i64 (Lib.bitLen x.toNat)) ∧ w = w' := by
  go_enter Try.func53, Try.ntmps53
  go_wp2
  all_goals first
    | (go_ret; refine ⟨congrArg Ending.returned (congrArg (Value.int IntKind.i64) ?_), rfl⟩; go_light)
    | (exfalso
       go_light
       have hs := len8tab_size
       omega)
  all_goals first
    | (rw [len8_get (x / 4294967296 / 65536 / 256) _, Lib.len8_of (x / 4294967296 / 65536 / 256) (by omega) (by omega)]
       have e : (x / 4294967296 / 65536 / 256).toNat = x.toNat / 72057594037927936 := by omega
       have l := Lib.bitLen_le8' (x / 4294967296 / 65536 / 256) (by omega) (by omega)
       have s := Lib.bitLen_shift56 x.toNat (by omega) (by omega)
       rw [e] at l ⊢
       exact wrap_add 56 _ _ (by decide) l s)
    | (rw [len8_get (x / 4294967296 / 65536) _, Lib.len8_of (x / 4294967296 / 65536) (by omega) (by omega)]
       have e : (x / 4294967296 / 65536).toNat = x.toNat / 281474976710656 := by omega
       have l := Lib.bitLen_le8' (x / 4294967296 / 65536) (by omega) (by omega)
       have s := Lib.bitLen_shift48 x.toNat (by omega) (by omega)
       rw [e] at l ⊢
       exact wrap_add 48 _ _ (by decide) l s)
    | (rw [len8_get (x / 4294967296 / 256) _, Lib.len8_of (x / 4294967296 / 256) (by omega) (by omega)]
       have e : (x / 4294967296 / 256).toNat = x.toNat / 1099511627776 := by omega
       have l := Lib.bitLen_le8' (x / 4294967296 / 256) (by omega) (by omega)
       have s := Lib.bitLen_shift40 x.toNat (by omega) (by omega)
       rw [e] at l ⊢
       exact wrap_add 40 _ _ (by decide) l s)
    | (rw [len8_get (x / 4294967296) _, Lib.len8_of (x / 4294967296) (by omega) (by omega)]
       have e : (x / 4294967296).toNat = x.toNat / 4294967296 := by omega
       have l := Lib.bitLen_le8' (x / 4294967296) (by omega) (by omega)
       have s := Lib.bitLen_shift32 x.toNat (by omega) (by omega)
       rw [e] at l ⊢
       exact wrap_add 32 _ _ (by decide) l s)
    | (rw [len8_get (x / 65536 / 256) _, Lib.len8_of (x / 65536 / 256) (by omega) (by omega)]
       have e : (x / 65536 / 256).toNat = x.toNat / 16777216 := by omega
       have l := Lib.bitLen_le8' (x / 65536 / 256) (by omega) (by omega)
       have s := Lib.bitLen_shift24 x.toNat (by omega) (by omega)
       rw [e] at l ⊢
       exact wrap_add 24 _ _ (by decide) l s)
    | (rw [len8_get (x / 65536) _, Lib.len8_of (x / 65536) (by omega) (by omega)]
       have e : (x / 65536).toNat = x.toNat / 65536 := by omega
       have l := Lib.bitLen_le8' (x / 65536) (by omega) (by omega)
       have s := Lib.bitLen_shift16 x.toNat (by omega) (by omega)
       rw [e] at l ⊢
       exact wrap_add 16 _ _ (by decide) l s)
    | (rw [len8_get (x / 256) _, Lib.len8_of (x / 256) (by omega) (by omega)]
       have e : (x / 256).toNat = x.toNat / 256 := by omega
       have l := Lib.bitLen_le8' (x / 256) (by omega) (by omega)
       have s := Lib.bitLen_shift8 x.toNat (by omega) (by omega)
       rw [e] at l ⊢
       exact wrap_add 8 _ _ (by decide) l s)
    | (rw [len8_get (x) _, Lib.len8_of (x) (by omega) (by omega)]
       have e : (x).toNat = x.toNat := by omega
       have l := Lib.bitLen_le8' (x) (by omega) (by omega)
       rw [e] at l ⊢
       first | exact wrap_wrap _ l | exact wrap_add 0 _ _ (by decide) l (by omega) | exact wrap_one _ l)

set_option maxHeartbeats 1000000 in
theorem len_any (x : Int) (w : World) (h0 : 0 ≤ x) (h1 : x ≤ 18446744073709551615) :
    Calls Try.prog 38 #[.int .u64 x] w fun e w' => e = .returned (.int .i64 (Lib.bitLen x.toNat)) ∧ w = w' := by
  go_enter Try.func38, Try.ntmps38
  go_wp2_with (refine (len64_any _ _ (by omega) (by omega)).mono ?_; rintro e w' ⟨rfl, rfl⟩)
  go_ret
  exact ⟨rfl, rfl⟩

/-- Bits of so many nodes. -/
def kB (n : Int) : Nat := Lib.bitLen n.toNat

set_option maxHeartbeats 1000000 in
theorem bitsOf_any (n : Int) (hn : n ≤ 9223372036854775807) (w : World) :
    Calls Try.prog 41 #[.int .i64 n] w fun e w' => e = .returned (.int .i64 (kB n)) ∧ w = w' := by
  have e : (max n 0).toNat = n.toNat := by omega
  go_enter Try.func41, Try.ntmps41
  go_wp2_with (refine (len_any _ _ (by omega) (by omega)).mono ?_; rintro e w' ⟨rfl, rfl⟩)
  go_ret
  exact ⟨rfl, rfl⟩

theorem kB_le (n : Int) (hn : n ≤ 9223372036854775807) : kB n ≤ 64 := Lib.bitLen_le _ _ (by decide) (by show n.toNat < 18446744073709551616; omega)

set_option maxHeartbeats 1000000 in
theorem rbits_any (n : Int) (hn : n ≤ 9223372036854775807) (w : World) :
    Calls Try.prog 36 #[.int .i64 n] w fun e w' => e = .returned (.int .i64 (kB n)) ∧ w = w' := by
  go_enter Try.func36, Try.ntmps36
  go_wp2
  go_loop [0, 3] (fun x i => ∃ (z : Int) (k : Nat), z ≤ 9223372036854775807 ∧ x = .int .i64 z ∧ i = .int .i64 k ∧ Hid (k + Lib.bitLen z.toNat = kB n)) (fun x _ => (intOf x).toNat)
  case atStart => exact ⟨n, 0, hn, rfl, rfl, Lib.hid (by simp [kB])⟩
  case round =>
    obtain ⟨z, k, hz, rfl, rfl, hH⟩ := hrel
    by_cases h : 0 < z
    · have hb := Lib.bitLen_half z.toNat (by omega) (by show z.toNat < 18446744073709551616; omega)
      have hk := kB_le n hn
      have hk2 : k ≤ 64 := by have := hH.out; omega
      have hq : Int.tdiv z 2 = z / 2 := Int.tdiv_eq_ediv_of_nonneg (by omega)
      have hH2 : Hid ((k + 1) + Lib.bitLen (z / 2).toNat = kB n) := Lib.hid (by rw [show (z / 2).toNat = z.toNat / 2 from by omega]; have := hH.out; omega)
      go_wp2
      go_round
      case rel => exact ⟨z / 2, k + 1, by omega, by simp [hq], by simp, hH2⟩
      case measure => simp [intOf, hq]; omega
    · have hb : Lib.bitLen z.toNat = 0 := by rw [show z.toNat = 0 from by omega]; rfl
      have hk : (k : Int) = kB n := by have := hH.out; omega
      go_wp2
      go_ret
      exact ⟨by rw [← hk]; rfl, rfl⟩

def ceilEntry : Array Value → Sem Value := Extern.MathFloor.toIntegral "math.archCeil" .up
@[local go_sem] theorem run_archCeil (x : Nat) (w : World) (h : Fl.Fin x) : (callFunc 54 #[.float .f64 x]).run Try.prog w = .ok (.value (.float .f64 (Fl.rnd (Fl.up x) 0))) w := by
  rw [run_callFunc_extern (e := ceilEntry) (fn := Try.f54) (by kernel_rfl) (by kernel_rfl) (by kernel_rfl) (by kernel_rfl) (by kernel_rfl)]
  have hr : FloatKind.f64.decode x = .number false (Fl.mag x) (Fl.plc x) := Fl.read_eq x h
  have hc := Fl.ceil_eq x h
  have he : ceilEntry #[.float .f64 x] = pure (.float .f64 (FloatKind.f64.encode ((FloatKind.f64.decode x).integral .up))) := by
    unfold ceilEntry Extern.MathFloor.toIntegral
    conv => lhs; whnf
    rw [hr]
  rw [he]
  rw [Fl.read_eq x h] at hc
  rw [hr]
  show Result.andThen (Sem.run Try.prog (pure (Value.float .f64 (Ieee.double.write ((Ieee.Datum.number false (Fl.mag x) (Fl.plc x)).integral .up)))) w) _ = _
  rw [hc]
  rfl

set_option maxHeartbeats 1000000 in
theorem ceil_any (x : Nat) (h : Fl.Fin x) (w : World) :
    Calls Try.prog 39 #[.float .f64 x] w fun e w' => e = .returned (.float .f64 (Fl.rnd (Fl.up x) 0)) ∧ w = w' := by
  go_enter Try.func39, Try.ntmps39
  go_wp2
  go_ret
  exact ⟨rfl, rfl⟩

theorem conv_int (n : Nat) : floatOfInt .f64 (n : Int) = Fl.rnd n 0 := by
  have := Fl.nearest_eq n 0
  unfold floatOfInt
  show Ieee.double.nearest (decide ((n : Int) < 0)) (n : Int).natAbs 0 = _
  rw [show (decide ((n : Int) < 0)) = false from by simp, show (n : Int).natAbs = n from by omega]
  exact this
theorem mul_bits (r s : Nat) (hr : r < Fl.top) (hs : s < Fl.top) : floatBits .mul .f64 r s = some (Fl.rnd (Fl.val r * Fl.val s) (-2148)) := Fl.mul_eq r s hr hs
theorem sub_bits (r s : Nat) (hr : r < Fl.top) (hs : s ≤ r) : floatBits .sub .f64 r s = some (Fl.rnd (Fl.val r - Fl.val s) (-1074)) := Fl.sub_eq r s hr hs
theorem run_mul64 (t : TypeId) (r s : Nat) (hr : r < Fl.top) (hs : s < Fl.top) (w : World) : (binOp .mul t (.float .f64 r) (.float .f64 s)).run Try.prog w = .ok (.float .f64 (Fl.rnd (Fl.val r * Fl.val s) (-2148))) w := run_float_arith w _ _ _ _ _ _ (mul_bits r s hr hs)
theorem run_sub64 (t : TypeId) (r s : Nat) (hr : r < Fl.top) (hs : s ≤ r) (w : World) : (binOp .sub t (.float .f64 r) (.float .f64 s)).run Try.prog w = .ok (.float .f64 (Fl.rnd (Fl.val r - Fl.val s) (-1074))) w := run_float_arith w _ _ _ _ _ _ (sub_bits r s hr hs)
theorem run_max64 (ts : Array TypeId) (t : TypeId) (r s : Nat) (hr : r < Fl.top) (hs : s < Fl.top) (w : World) : (Builtin.max_ ts t #[.float .f64 r, .float .f64 s]).run Try.prog w = .ok (.float .f64 (if r < s then s else r)) w := by
  have ho : FloatKind.f64.format.order r s = some (compare r s) := Fl.order_eq r s hr hs
  have hn : (FloatKind.f64.decode r).neg = false := by
    show (Ieee.double.read r).neg = false
    rw [Fl.read_eq r hr]; rfl
  rcases Nat.lt_trichotomy r s with h | h | h
  · rw [Nat.compare_eq_lt.2 h] at ho
    simp [Builtin.max_, Builtin.max2, ho, h]
  · subst h
    rw [Nat.compare_eq_eq.2 rfl] at ho
    simp [Builtin.max_, Builtin.max2, ho, hn]
  · rw [Nat.compare_eq_gt.2 h] at ho
    simp [Builtin.max_, Builtin.max2, ho, show ¬ r < s by omega]
theorem o_lt (r s : Nat) (hr : r < Fl.top) (hs : s < Fl.top) : (FloatKind.f64.format.order r s == some .lt) = decide (r < s) := by
  have ho : FloatKind.f64.format.order r s = some (compare r s) := Fl.order_eq r s hr hs
  rw [ho]
  rcases Nat.lt_trichotomy r s with h | h | h
  · rw [Nat.compare_eq_lt.2 h]; simp [h]
  · subst h; simp
  · rw [Nat.compare_eq_gt.2 h]; simp; omega
theorem o_gt (r s : Nat) (hr : r < Fl.top) (hs : s < Fl.top) : (FloatKind.f64.format.order r s == some .gt) = decide (s < r) := by
  have ho : FloatKind.f64.format.order r s = some (compare r s) := Fl.order_eq r s hr hs
  rw [ho]
  rcases Nat.lt_trichotomy r s with h | h | h
  · rw [Nat.compare_eq_lt.2 h]; simp; omega
  · subst h; simp
  · rw [Nat.compare_eq_gt.2 h]; simp [h]
theorem o_eq (r s : Nat) (hr : r < Fl.top) (hs : s < Fl.top) : (FloatKind.f64.format.order r s == some .eq) = decide (r = s) := by
  have ho : FloatKind.f64.format.order r s = some (compare r s) := Fl.order_eq r s hr hs
  rw [ho]
  rcases Nat.lt_trichotomy r s with h | h | h
  · rw [Nat.compare_eq_lt.2 h]; simp; omega
  · subst h; simp
  · rw [Nat.compare_eq_gt.2 h]; simp; omega

/-- What is left for those who told it. -/
def lessB (told : Int) (g l : Nat) : Nat := if Fl.rest (Fl.qB told) g l < l then l else Fl.rest (Fl.qB told) g l
theorem lessB_le (told : Int) (g l : Nat) (hg : g < Fl.top) (hl : l ≤ g) : lessB told g l < Fl.top := by
  have := Fl.rest_le (Fl.qB told) g l hg
  unfold lessB
  split <;> omega
theorem less_runs (told : Int) (g l : Nat) (hg : g < Fl.top) (hl : l ≤ g) : ∃ d c r : Nat,
    (∀ w, (binOp .sub 35 (.float .f64 g) (.float .f64 l)).run Try.prog w = .ok (.float .f64 d) w) ∧
    (∀ w, (binOp .mul 35 (.float .f64 (Fl.qB told)) (.float .f64 d)).run Try.prog w = .ok (.float .f64 c) w) ∧
    (∀ w, (binOp .sub 35 (.float .f64 g) (.float .f64 c)).run Try.prog w = .ok (.float .f64 r) w) ∧
    (∀ w, (Builtin.max_ #[35, 35] 35 #[.float .f64 r, .float .f64 l]).run Try.prog w = .ok (.float .f64 (lessB told g l)) w) ∧
    r < Fl.top ∧ lessB told g l = if r < l then l else r := by
  have hr := Nat.lt_of_le_of_lt (Fl.rest_le (Fl.qB told) g l hg) hg
  exact ⟨Fl.gap g l, Fl.cut (Fl.qB told) g l, Fl.rest (Fl.qB told) g l, run_sub64 _ g l hg hl,
    run_mul64 _ _ _ (Fl.qB_top told) (Nat.lt_of_le_of_lt (Fl.gap_le g l hg) hg), run_sub64 _ g _ hg (Fl.cut_le' told g l hg),
    run_max64 _ _ _ l hr (by omega), hr, rfl⟩

set_option maxHeartbeats 1000000 in
theorem less_any (told : Int) (g l : Nat) (hg : g < Fl.top) (hl : l ≤ g) (G L : Nat) (w : World) (hG : w.cell? ⟨G, 0, none⟩ = some (.float .f64 g)) (hL : w.cell? ⟨L, 0, none⟩ = some (.float .f64 l)) :
    Calls Try.prog 42 #[.float .f64 (Fl.qB told), .pointer (some ⟨G, 0, none⟩), .pointer (some ⟨L, 0, none⟩)] w fun e w' =>
      e = .returned (.float .f64 (lessB told g l)) ∧ w = w' := by
  obtain ⟨d, c, r, h1, h2, h3, h4, -, -⟩ := less_runs told g l hg hl
  generalize lessB told g l = z at *
  generalize Fl.qB told = q at *
  go_enter Try.func42, Try.ntmps42
  go_wp2
  go_ret
  exact ⟨rfl, rfl⟩

theorem raw_runs (l k : Nat) (hl : l ≤ Fl.K3) (hk : k ≤ 64) : ∃ c r : Nat, floatOfInt .f64 (k : Int) = c ∧
    (∀ w, (binOp .mul 35 (.float .f64 l) (.float .f64 c)).run Try.prog w = .ok (.float .f64 r) w) ∧
    (∀ w, (Builtin.max_ #[35, 35] 35 #[.float .f64 r, .float .f64 l]).run Try.prog w = .ok (.float .f64 (Fl.great l k)) w) ∧
    r < Fl.top ∧ Fl.great l k = if r < l then l else r := by
  have hlt := Nat.lt_of_le_of_lt hl Fl.K3_top
  have hr := Nat.lt_of_le_of_lt (Fl.raw_le l k hl hk) Fl.K64_top
  exact ⟨Fl.rnd k 0, Fl.rnd (Fl.val l * Fl.val (Fl.rnd k 0)) (-2148), conv_int k, run_mul64 _ _ _ hlt (Fl.small_eq k (by omega)).1, run_max64 _ _ _ l hr hlt, hr, rfl⟩

theorem run_quo3 (t : TypeId) (told : Int) (h0 : 0 < told) (h3 : told < 3) (w : World) :
    (binOp .quo t (.float .f64 (floatOfInt .f64 told)) (.float .f64 (floatOfInt .f64 3))).run Try.prog w = .ok (.float .f64 (Fl.qB told)) w := by
  have e3 := conv_int 3
  have h : floatBits .quo .f64 (floatOfInt .f64 told) (floatOfInt .f64 3) = some (Fl.qB told) := by
    rw [show ((3 : Int)) = ((3 : Nat) : Int) from rfl, e3]
    rcases (by omega : told = 1 ∨ told = 2) with rfl | rfl
    · have e1 := conv_int 1
      rw [show ((1 : Int)) = ((1 : Nat) : Int) from rfl, e1]
      exact Fl.div1
    · have e1 := conv_int 2
      rw [show ((2 : Int)) = ((2 : Nat) : Int) from rfl, e1]
      exact Fl.div2
  exact run_float_arith w _ _ _ _ _ _ h
end Go.Proofs.Ytilfngegmdedpaa
