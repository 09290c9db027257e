/- Doubts: the record, its cells; the small functions on bands, on who may be told of, and on time. -/
import Derived.Test.YtilfngegmdedpaaRx
set_option linter.unusedVariables false
set_option linter.unusedSimpArgs false
namespace Go.Proofs.Ytilfngegmdedpaa
open Go.RowKit Go.Shelf Go.Proofs
attribute [local go_sem] Oper.semAt_some

theorem pw_wrap (n : Nat) (hn : n < 64) : IntKind.u64.wrap (2 ^ n) = ((2 ^ n : Nat) : Int) := by
  have : 2 ^ n < 2 ^ 64 := Nat.pow_lt_pow_right (by omega) hn
  have e : (2 : Int) ^ n = ((2 ^ n : Nat) : Int) := by simp
  rw [IntKind.wrap_u64, e]
  generalize 2 ^ n = z at *
  have : z < 18446744073709551616 := by simpa using this
  omega
theorem and_bit (b n : Nat) (hb : b < 2 ^ 64) (hn : n < 64) : (Go.bits .and .u64 (b : Int) (2 ^ n) != 0) = b.testBit n := by
  have h1 : 2 ^ n < 2 ^ 64 := Nat.pow_lt_pow_right (by omega) hn
  have e : (2 : Int) ^ n = ((2 ^ n : Nat) : Int) := by simp
  rw [e, bits_and_u64_nat _ _ (by simpa using hb) (by simpa using h1)]
  have key : b &&& 2 ^ n = if b.testBit n then 2 ^ n else 0 := by
    apply Nat.eq_of_testBit_eq
    intro i
    rw [Nat.testBit_and, Nat.testBit_two_pow]
    by_cases hi : n = i
    · subst hi
      cases b.testBit n <;> simp [Nat.testBit_two_pow]
    · cases b.testBit n <;> simp [hi, Nat.testBit_two_pow]
  rw [key]
  have hp : 0 < 2 ^ n := Nat.two_pow_pos n
  cases b.testBit n
  · simp
  · simp; omega
theorem or_bit (b n : Nat) (hb : b < 2 ^ 64) (hn : n < 64) : Go.bits .or .u64 (b : Int) (2 ^ n) = ((b ||| 2 ^ n : Nat) : Int) := by
  have h1 : 2 ^ n < 2 ^ 64 := Nat.pow_lt_pow_right (by omega) hn
  have e : (2 : Int) ^ n = ((2 ^ n : Nat) : Int) := by simp
  rw [e, bits_or_u64_nat _ _ (by simpa using hb) (by simpa using h1)]
theorem has_bit' (b n : Nat) (hb : b < 2 ^ 64) : (Go.bits .and .u64 ((b : Int) / 2 ^ n) 1 == 1) = b.testBit n := by
  have e1 : ((b : Int) / 2 ^ n) = ((b / 2 ^ n : Nat) : Int) := by simp
  have hd : b / 2 ^ n < 18446744073709551616 := Nat.lt_of_le_of_lt (Nat.div_le_self _ _) (by simpa using hb)
  rw [e1, show (1 : Int) = ((1 : Nat) : Int) from rfl, bits_and_u64_nat _ _ hd (by omega), Nat.and_one_is_mod]
  rw [Nat.testBit_eq_decide_div_mod_eq]
  by_cases h : b / 2 ^ n % 2 = 1 <;> simp [h]
  omega
theorem or_lt (b n : Nat) (hb : b < 2 ^ 64) (hn : n < 64) : b ||| 2 ^ n < 2 ^ 64 := Nat.or_lt_two_pow hb (Nat.pow_lt_pow_right (by omega) hn)

set_option maxHeartbeats 400000 in
theorem bit_any (n : Nat) (hn : n < 64) (w : World) :
    Calls Try.prog 29 #[.int .i64 n] w fun e w' => e = .returned (.int .u64 ((2 ^ n : Nat) : Int)) ∧ w = w' := by
  have h1 : (n : Int) < 64 := by omega
  go_enter Try.func29, Try.ntmps29
  go_wp2
  go_ret
  exact ⟨congrArg (fun z => Ending.returned (.int .u64 z)) (pw_wrap n hn), rfl⟩

set_option maxHeartbeats 400000 in
theorem bhas_any (b n : Nat) (hb : b < 2 ^ 64) (hn : n < 64) (w : World) :
    Calls Try.prog 18 #[.int .u64 b, .int .i64 n] w fun e w' => e = .returned (.bool (b.testBit n)) ∧ w = w' := by
  go_enter Try.func18, Try.ntmps18
  go_wp2_with (go_at_call 29; refine (bit_any n hn _).mono ?_; rintro e w' ⟨rfl, rfl⟩)
  go_ret
  exact ⟨congrArg (fun z => Ending.returned (.bool z)) (and_bit b n hb hn), rfl⟩

set_option maxHeartbeats 400000 in
theorem bwith_any (b n : Nat) (hb : b < 2 ^ 64) (hn : n < 64) (w : World) :
    Calls Try.prog 19 #[.int .u64 b, .int .i64 n] w fun e w' => e = .returned (.int .u64 ((b ||| 2 ^ n : Nat) : Int)) ∧ w = w' := by
  go_enter Try.func19, Try.ntmps19
  go_wp2_with (go_at_call 29; refine (bit_any n hn _).mono ?_; rintro e w' ⟨rfl, rfl⟩)
  go_ret
  exact ⟨congrArg (fun z => Ending.returned (.int .u64 z)) (or_bit b n hb hn), rfl⟩

set_option maxHeartbeats 400000 in
theorem rnode_yes (n : Int) (w : World) (h0 : 0 ≤ n) (h1 : n < 64) :
    Calls Try.prog 34 #[.int .i64 n] w fun e w' => e = .returned (.bool true) ∧ w = w' := by
  go_enter Try.func34, Try.ntmps34
  go_wp2
  go_ret
  exact ⟨rfl, rfl⟩

set_option maxHeartbeats 400000 in
theorem rhas_any (b n : Nat) (hb : b < 2 ^ 64) (hn : n < 64) (w : World) :
    Calls Try.prog 22 #[.int .u64 b, .int .i64 n] w fun e w' => e = .returned (.bool (b.testBit n)) ∧ w = w' := by
  have h2 : (n : Int) < 64 := by omega
  go_enter Try.func22, Try.ntmps22
  go_wp2_with (go_at_call 34; refine (rnode_yes _ _ (by omega) (by omega)).mono ?_; rintro e w' ⟨rfl, rfl⟩)
  go_ret
  exact ⟨congrArg (fun z => Ending.returned (.bool z)) (has_bit' b n hb), rfl⟩

set_option maxHeartbeats 400000 in
theorem rwith_any (b n : Nat) (hb : b < 2 ^ 64) (hn : n < 64) (w : World) :
    Calls Try.prog 23 #[.int .u64 b, .int .i64 n] w fun e w' => e = .returned (.int .u64 ((b ||| 2 ^ n : Nat) : Int)) ∧ w = w' := by
  have h2 : (n : Int) < 64 := by omega
  go_enter Try.func23, Try.ntmps23
  go_wp2_with (go_at_call 34; refine (rnode_yes _ _ (by omega) (by omega)).mono ?_; rintro e w' ⟨rfl, rfl⟩)
  go_ret
  exact ⟨congrArg (fun z => Ending.returned (.int .u64 z)) (by rw [pw_wrap n hn]; exact (congrArg _ (by simp)).trans (or_bit b n hb hn)), rfl⟩

/-- How many can be told apart, and in which states. -/
def mayB (n s : Int) : Bool := decide (0 ≤ n) && decide (n < 64) && decide (0 ≤ s) && decide (s ≤ 3)
theorem mayB_1 (n s : Int) (h1 : 0 ≤ n) (h2 : n < 64) (h3 : 0 ≤ s) : decide (s ≤ 3) = mayB n s := by simp [mayB, h1, h2, h3]
theorem mayB_2 (n s : Int) (h3 : s < 0) : false = mayB n s := by simp [mayB]; omega
theorem mayB_3 (n s : Int) (h3 : 64 ≤ n) : false = mayB n s := by simp [mayB]; omega
theorem mayB_4 (n s : Int) (h3 : n < 0) : false = mayB n s := by simp [mayB]; omega
theorem ret_bool {a b : Bool} (h : a = b) : Ending.returned (.bool a) = Ending.returned (.bool b) := by rw [h]
theorem ret_u64 {a b : Int} (h : a = b) : Ending.returned (.int .u64 a) = Ending.returned (.int .u64 b) := by rw [h]
theorem ret_val {a b : Value} (h : a = b) : Ending.returned a = Ending.returned b := by rw [h]

set_option maxHeartbeats 1000000 in
theorem tmay_any (n i s : Int) (w : World) :
    Calls Try.prog 28 #[.agg #[.int .i64 n, .int .u64 i, .int .i64 s]] w fun e w' => e = .returned (.bool (mayB n s)) ∧ Below w.heap.size w w' := by
  go_enter Try.func28, Try.ntmps28
  go_wp2
  all_goals go_ret
  all_goals first
    | exact ⟨ret_bool (mayB_1 n s (by assumption) (by assumption) (by assumption)), (Below.refl _ _).alloc (Nat.le_refl _) _⟩
    | exact ⟨ret_bool (mayB_2 n s (by assumption)), (Below.refl _ _).alloc (Nat.le_refl _) _⟩
    | exact ⟨ret_bool (mayB_3 n s (by assumption)), (Below.refl _ _).alloc (Nat.le_refl _) _⟩
    | exact ⟨ret_bool (mayB_4 n s (by assumption)), (Below.refl _ _).alloc (Nat.le_refl _) _⟩

set_option maxHeartbeats 1000000 in
theorem may_any (n i s : Int) (w : World) :
    Calls Try.prog 17 #[.agg #[.int .i64 n, .int .u64 i, .int .i64 s]] w fun e w' => e = .returned (.bool (mayB n s)) ∧ Below w.heap.size w w' := by
  have hB0 : Below w.heap.size w (w.alloc (.cells #[.int .i64 n, .int .u64 i, .int .i64 s] 34)) := (Below.refl _ w).alloc (Nat.le_refl _) _
  go_enter Try.func17, Try.ntmps17
  go_wp2_with (go_at_call 28; refine (tmay_any n i s _).mono ?_; rintro e w' ⟨rfl, hB⟩)
  go_ret
  exact ⟨rfl, hB0.trans (hB.mono (by simp))⟩

set_option maxHeartbeats 1000000 in
theorem rmay_any (n i s : Int) (w : World) :
    Calls Try.prog 21 #[.agg #[.int .i64 n, .int .u64 i, .int .i64 s]] w fun e w' => e = .returned (.bool (mayB n s)) ∧ Below w.heap.size w w' := by
  go_enter Try.func21, Try.ntmps21
  go_wp2
  all_goals go_ret
  all_goals first
    | exact ⟨ret_bool (mayB_1 n s (by assumption) (by assumption) (by assumption)), (Below.refl _ _).alloc (Nat.le_refl _) _⟩
    | exact ⟨ret_bool (mayB_2 n s (by assumption)), (Below.refl _ _).alloc (Nat.le_refl _) _⟩
    | exact ⟨ret_bool (mayB_3 n s (by assumption)), (Below.refl _ _).alloc (Nat.le_refl _) _⟩
    | exact ⟨ret_bool (mayB_4 n s (by assumption)), (Below.refl _ _).alloc (Nat.le_refl _) _⟩

/-- A time, and so many ticks more. -/
def laterB (t k : Nat) : Nat := if 18446744073709551615 - t < k then 18446744073709551615 else t + k
theorem laterB_lt (t k : Nat) (ht : t < 2 ^ 64) : laterB t k < 2 ^ 64 := by
  have : (2 : Nat) ^ 64 = 18446744073709551616 := by decide
  unfold laterB
  split <;> omega

set_option maxHeartbeats 400000 in
theorem later_any (t k : Nat) (ht : t < 2 ^ 64) (w : World) :
    Calls Try.prog 24 #[.int .u64 t, .int .u64 k] w fun e w' => e = .returned (.int .u64 (laterB t k)) ∧ w = w' := by
  have h64 : (2 : Nat) ^ 64 = 18446744073709551616 := by decide
  by_cases h : 18446744073709551615 - t < k
  · have e : Hid (laterB t k = 18446744073709551615) := Lib.hid (by unfold laterB; rw [if_pos h])
    go_enter Try.func24, Try.ntmps24
    go_wp2
    go_ret
    exact ⟨ret_u64 (by rw [e.out]; rfl), rfl⟩
  · have e : Hid (laterB t k = t + k) := Lib.hid (by unfold laterB; rw [if_neg h])
    go_enter Try.func24, Try.ntmps24
    go_wp2
    go_ret
    exact ⟨ret_u64 (by rw [e.out]; simp), rfl⟩

theorem run_add64_ext (x y c : Int) (hx : 0 ≤ x) (hy : 0 ≤ y) (hc0 : 0 ≤ c) (hc : c ≤ 1) (w : World) :
    (callFunc 31 #[.int .u64 x, .int .u64 y, .int .u64 c]).run Try.prog w = .ok (.value (.tuple #[.int .u64 ((x + y + c) % 18446744073709551616), .int .u64 ((x + y + c) / 18446744073709551616)])) w := by
  rw [run_callFunc_extern (e := add64Entry) (fn := Try.f31) (by kernel_rfl) (by kernel_rfl) (by kernel_rfl) (by kernel_rfl) (by kernel_rfl), run_add64 x y c hx hy hc0 hc]
  rfl

/-- A sum that holds at its end. -/
theorem held_eq (t k : Nat) (ht : t < 2 ^ 64) (hk : k ≤ 64000) :
    Go.bits .or .u64 (((t : Int) + k + 0) % 18446744073709551616) (IntKind.u64.wrap (-(((t : Int) + k + 0) / 18446744073709551616))) = ((laterB t k : Nat) : Int) := by
  have h64 : (2 : Nat) ^ 64 = 18446744073709551616 := by decide
  by_cases h : 18446744073709551615 - t < k
  · have e : laterB t k = 18446744073709551615 := by unfold laterB; rw [if_pos h]
    rw [e, show ((t : Int) + k + 0) / 18446744073709551616 = 1 from by omega, show ((t : Int) + k + 0) % 18446744073709551616 = ((t + k - 18446744073709551616 : Nat) : Int) from by omega]
    rw [show IntKind.u64.wrap (-1) = ((18446744073709551615 : Nat) : Int) from by decide]
    rw [bits_or_u64_nat _ _ (by omega) (by omega)]
    congr 1
    apply Nat.eq_of_testBit_eq
    intro i
    rw [Nat.testBit_or]
    have e2 : 18446744073709551615 = 2 ^ 64 - 1 := by decide
    rw [e2, Nat.testBit_two_pow_sub_one]
    by_cases hi : i < 64
    · simp [hi]
    · have : t + k - 18446744073709551616 < 2 ^ i := Nat.lt_of_lt_of_le (show t + k - 18446744073709551616 < 2 ^ 64 by omega) (Nat.pow_le_pow_right (by omega) (by omega))
      simp [hi, Nat.testBit_lt_two_pow this]
  · have e : laterB t k = t + k := by unfold laterB; rw [if_neg h]
    rw [e, show ((t : Int) + k + 0) / 18446744073709551616 = 0 from by omega, show ((t : Int) + k + 0) % 18446744073709551616 = ((t + k : Nat) : Int) from by omega]
    rw [show IntKind.u64.wrap (-0) = ((0 : Nat) : Int) from by decide]
    rw [bits_or_u64_nat _ _ (by omega) (by omega), Nat.or_zero]

set_option maxHeartbeats 400000 in
theorem held_any (a b : Int) (w : World) :
    Calls Try.prog 30 #[.int .u64 a, .int .u64 b] w fun e w' => e = .returned (.int .u64 (Go.bits .or .u64 a (IntKind.u64.wrap (-b)))) ∧ w = w' := by
  go_enter Try.func30, Try.ntmps30
  go_wp2
  go_ret
  exact ⟨rfl, rfl⟩
end Go.Proofs.Ytilfngegmdedpaa
