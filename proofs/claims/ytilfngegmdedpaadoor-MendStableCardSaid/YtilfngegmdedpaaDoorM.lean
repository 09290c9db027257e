/- Plain facts on bands: the nodes of a band, rising, by the lowest bit. -/
import Derived.Lib.TrailingZeros
import Derived.Laws.Bits64b
set_option linter.unusedVariables false
set_option linter.unusedSimpArgs false
namespace Go.Proofs.YtilfngegmdedpaaDoor

/-- The nodes of a band, rising. -/
def bandL (x : Nat) : List Nat := (List.range 64).filter fun n => x.testBit n

theorem filter_first (p q : Nat → Bool) (k : Nat) (hk : p k = true) (hlow : ∀ j, j < k → p j = false) (hq : ∀ j, q j = (p j && decide (k < j))) :
    ∀ n, k < n → (List.range n).filter p = k :: (List.range n).filter q := by
  intro n
  induction n with
  | zero => intro h; omega
  | succ n ih =>
    intro h
    rw [List.range_succ, List.filter_append, List.filter_append]
    by_cases e : k = n
    · subst e
      have e1 : (List.range k).filter p = [] := by
        rw [List.filter_eq_nil_iff]
        intro j hj
        rw [hlow j (by simpa using hj)]
        simp
      have e2 : (List.range k).filter q = [] := by
        rw [List.filter_eq_nil_iff]
        intro j hj
        rw [hq, hlow j (by simpa using hj)]
        simp
      have e3 : q k = false := by rw [hq]; simp
      simp [e1, e2, hk, e3]
    · have hkn : k < n := by omega
      rw [ih hkn]
      have e3 : q n = p n := by rw [hq]; simp [hkn]
      simp [List.filter_cons, e3]

theorem testBit_odd (k m j : Nat) : (2 ^ k * (2 * m + 1)).testBit j = (decide (k ≤ j) && (2 * m + 1).testBit (j - k)) := Nat.testBit_two_pow_mul ..

theorem low_gone (k m : Nat) : (2 ^ k * (2 * m + 1)) &&& (2 ^ k * (2 * m + 1) - 1) = 2 ^ k * (2 * m) := by
  apply Nat.eq_of_testBit_eq
  intro j
  have hp : 0 < 2 ^ k := Nat.two_pow_pos k
  have e1 : 2 ^ k * (2 * m + 1) - 1 = 2 ^ k * (2 * m) + (2 ^ k - 1) := by rw [Nat.mul_add]; omega
  rw [Nat.testBit_and, e1, Nat.testBit_two_pow_mul_add _ (by omega), testBit_odd, Nat.testBit_two_pow_mul]
  by_cases h : j < k
  · simp [h, show ¬ k ≤ j from by omega]
  · have hk : k ≤ j := by omega
    simp only [h, if_false, hk, decide_true, Bool.true_and]
    generalize j - k = i
    cases i with
    | zero => simp
    | succ i =>
      rw [Nat.testBit_succ, Nat.testBit_succ]
      rw [show (2 * m + 1) / 2 = m from by omega, show 2 * m / 2 = m from by omega]
      simp

/-- What the walk over a band's nodes does: the lowest node, and then the others. -/
theorem bandL_step (x : Nat) (h0 : x ≠ 0) (h : x < 2 ^ 64) : bandL x = Lib.ctz 64 x :: bandL (x &&& (x - 1)) ∧ Lib.ctz 64 x < 64 ∧ x &&& (x - 1) < x := by
  obtain ⟨m, hm, hk⟩ := Lib.ctzFrom_spec 64 x (by omega) h
  have e : Lib.ctz 64 x = Lib.ctzFrom 64 x := by simp [Lib.ctz, h0]
  rw [e]
  generalize Lib.ctzFrom 64 x = k at *
  have hg := low_gone k m
  rw [← hm] at hg
  have hp : 0 < 2 ^ k := Nat.two_pow_pos k
  refine ⟨?_, hk, by rw [hg, hm, Nat.mul_add]; omega⟩
  refine filter_first _ _ k ?_ ?_ ?_ 64 hk
  · rw [hm, testBit_odd]; simp
  · intro j hj
    rw [hm, testBit_odd]; simp; omega
  · intro j
    rw [hg, Nat.testBit_two_pow_mul, hm, testBit_odd]
    by_cases h1 : k ≤ j
    · by_cases h2 : k = j
      · subst h2; simp
      · have : k < j := by omega
        simp only [h1, decide_true, Bool.true_and, this, Bool.and_true]
        obtain ⟨i, hi⟩ : ∃ i, j - k = i + 1 := ⟨j - k - 1, by omega⟩
        rw [hi, Nat.testBit_succ, Nat.testBit_succ, show (2 * m + 1) / 2 = m from by omega, show 2 * m / 2 = m from by omega]
    · have : ¬ k < j := by omega
      simp [h1, this]

theorem bandL_zero : bandL 0 = [] := by simp [bandL]

theorem bandL_length (x : Nat) : (bandL x).length ≤ 64 := by
  have := List.length_filter_le (fun n => x.testBit n) (List.range 64)
  simpa [bandL] using this

theorem bandL_lt (x n : Nat) (h : n ∈ bandL x) : n < 64 := by
  simp [bandL] at h; exact h.1

/-- The bit as the program asks it. -/
theorem has_bit (b n : Nat) (hb : b < 2 ^ 64) : (Go.bits .and .u64 ((b : Int) / 2 ^ n) 1 == 1) = b.testBit n := by
  have e1 : ((b : Int) / 2 ^ n) = ((b / 2 ^ n : Nat) : Int) := by simp
  have hd : b / 2 ^ n < 18446744073709551616 := Nat.lt_of_le_of_lt (Nat.div_le_self _ _) (by simpa using hb)
  rw [e1, show (1 : Int) = ((1 : Nat) : Int) from rfl, bits_and_u64_nat _ _ hd (by omega), Nat.and_one_is_mod]
  rw [Nat.testBit_eq_decide_div_mod_eq]
  by_cases h : b / 2 ^ n % 2 = 1 <;> simp [h]
  omega

/-- After n places. -/
def bandTo (b n : Nat) : List Nat := (List.range n).filter fun j => b.testBit j
theorem bandTo_yes (b n : Nat) (h : b.testBit n = true) : bandTo b (n + 1) = bandTo b n ++ [n] := by
  simp [bandTo, List.range_succ, List.filter_append, h]
theorem bandTo_no (b n : Nat) (h : b.testBit n = false) : bandTo b (n + 1) = bandTo b n := by
  simp [bandTo, List.range_succ, List.filter_append, h]
theorem bandTo_le (b n : Nat) : (bandTo b n).length ≤ n := by
  have := List.length_filter_le (fun j => b.testBit j) (List.range n)
  simpa [bandTo] using this
end Go.Proofs.YtilfngegmdedpaaDoor
