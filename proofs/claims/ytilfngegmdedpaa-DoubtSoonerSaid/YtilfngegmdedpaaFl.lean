/- Plain facts on float64: rounding rises, and what is exact stays as it is. -/
import Ieee.Arith
import GoSem.Core.Float
set_option linter.unusedVariables false
set_option linter.unusedSimpArgs false
namespace Go.Proofs.Ytilfngegmdedpaa.Fl
open Ieee

/-- n / 2^d, to the nearest, ties to even. -/
def rdiv (n d : Nat) : Nat := n / 2 ^ d + if 2 ^ d < 2 * (n % 2 ^ d) ∨ (2 ^ d = 2 * (n % 2 ^ d) ∧ n / 2 ^ d % 2 = 1) then 1 else 0

theorem rdiv_zero_of (n d : Nat) (h : 4 * n < 2 ^ d) : rdiv n d = 0 := by
  unfold rdiv
  have h1 : n / 2 ^ d = 0 := Nat.div_eq_of_lt (by omega)
  have h2 : n % 2 ^ d = n := Nat.mod_eq_of_lt (by omega)
  rw [h1, h2, if_neg (by omega)]

theorem lt_log2 (n : Nat) : n < 2 ^ (n.log2 + 1) := Nat.lt_log2_self

theorem cut_even (neg : Bool) (n d : Nat) : Toward.even.cut neg n d = rdiv n d := by
  unfold Toward.cut
  by_cases hd : d ≤ n.log2 + 2
  · simp only [Nat.min_eq_left hd, Nat.one_shiftLeft]
    unfold rdiv
    congr 1
    by_cases h1 : 2 ^ d < 2 * (n % 2 ^ d)
    · simp [h1]
    · by_cases h2 : 2 ^ d = 2 * (n % 2 ^ d)
      · by_cases h3 : n / 2 ^ d % 2 = 1
        · simp [h1, h2.symm, h3]
        · simp [h1, h2.symm, h3]
      · simp [h1, h2]
  · have hl := lt_log2 n
    have hp : 2 ^ (n.log2 + 2) = 2 * 2 ^ (n.log2 + 1) := by rw [Nat.pow_succ]; omega
    simp only [Nat.min_eq_right (show n.log2 + 2 ≤ d by omega), Nat.one_shiftLeft]
    have h1 : n / 2 ^ (n.log2 + 2) = 0 := Nat.div_eq_of_lt (by omega)
    have h2 : n % 2 ^ (n.log2 + 2) = n := Nat.mod_eq_of_lt (by omega)
    have h3 : 2 ^ (n.log2 + 3) ≤ 2 ^ d := Nat.pow_le_pow_right (by omega) (by omega)
    have h4 : 2 ^ (n.log2 + 3) = 2 * 2 ^ (n.log2 + 2) := by rw [Nat.pow_succ]; omega
    rw [rdiv_zero_of n d (by omega), h1, h2]
    have e1 : ¬ 2 ^ (n.log2 + 2) < 2 * n := by omega
    simp [e1]

theorem cut_up (n d : Nat) : Toward.up.cut false n d = n / 2 ^ d + if n % 2 ^ d = 0 then 0 else 1 := by
  unfold Toward.cut
  by_cases hd : d ≤ n.log2 + 2
  · simp only [Nat.min_eq_left hd, Nat.one_shiftLeft]
    by_cases h : n % 2 ^ d = 0 <;> simp [h]
  · have hl := lt_log2 n
    have hp : 2 ^ (n.log2 + 2) = 2 * 2 ^ (n.log2 + 1) := by rw [Nat.pow_succ]; omega
    have h3 : 2 ^ (n.log2 + 2) ≤ 2 ^ d := Nat.pow_le_pow_right (by omega) (by omega)
    simp only [Nat.min_eq_right (show n.log2 + 2 ≤ d by omega), Nat.one_shiftLeft]
    rw [Nat.div_eq_of_lt (show n < 2 ^ (n.log2 + 2) by omega), Nat.mod_eq_of_lt (show n < 2 ^ (n.log2 + 2) by omega), Nat.div_eq_of_lt (show n < 2 ^ d by omega), Nat.mod_eq_of_lt (show n < 2 ^ d by omega)]
    by_cases h : n = 0 <;> simp [h]

theorem cut_zero (n d : Nat) : Toward.zero.cut false n d = n / 2 ^ d := by
  unfold Toward.cut
  by_cases hd : d ≤ n.log2 + 2
  · simp only [Nat.min_eq_left hd, Nat.one_shiftLeft]
    simp
  · have hl := lt_log2 n
    have hp : 2 ^ (n.log2 + 2) = 2 * 2 ^ (n.log2 + 1) := by rw [Nat.pow_succ]; omega
    have h3 : 2 ^ (n.log2 + 2) ≤ 2 ^ d := Nat.pow_le_pow_right (by omega) (by omega)
    simp only [Nat.min_eq_right (show n.log2 + 2 ≤ d by omega), Nat.one_shiftLeft]
    rw [Nat.div_eq_of_lt (show n < 2 ^ (n.log2 + 2) by omega), Nat.div_eq_of_lt (show n < 2 ^ d by omega)]
    simp

theorem rdiv_scale (n d k : Nat) : rdiv (n * 2 ^ k) (d + k) = rdiv n d := by
  have hk : 0 < 2 ^ k := Nat.two_pow_pos k
  have e1 : 2 ^ (d + k) = 2 ^ d * 2 ^ k := Nat.pow_add ..
  have e2 : n * 2 ^ k / (2 ^ d * 2 ^ k) = n / 2 ^ d := Nat.mul_div_mul_right _ _ hk
  have e3 : n * 2 ^ k % (2 ^ d * 2 ^ k) = (n % 2 ^ d) * 2 ^ k := Nat.mul_mod_mul_right ..
  unfold rdiv
  rw [e1, e2, e3]
  have c1 : (2 ^ d * 2 ^ k < 2 * (n % 2 ^ d * 2 ^ k)) ↔ 2 ^ d < 2 * (n % 2 ^ d) := by
    rw [← Nat.mul_assoc]; exact Nat.mul_lt_mul_right hk
  have c2 : (2 ^ d * 2 ^ k = 2 * (n % 2 ^ d * 2 ^ k)) ↔ 2 ^ d = 2 * (n % 2 ^ d) := by
    rw [← Nat.mul_assoc]; exact ⟨fun h => Nat.eq_of_mul_eq_mul_right hk h, fun h => congrArg (· * 2 ^ k) h⟩
  simp only [c1, c2]

theorem rdiv_succ (n d : Nat) : rdiv n d ≤ rdiv (n + 1) d := by
  have hg : 0 < 2 ^ d := Nat.two_pow_pos d
  unfold rdiv
  generalize 2 ^ d = g at *
  have hdm := Nat.div_add_mod n g
  have hlt := Nat.mod_lt n hg
  by_cases h : n % g + 1 < g
  · have e1 : (n + 1) / g = n / g := by
      rw [show n + 1 = (n % g + 1) + g * (n / g) from by omega, Nat.add_mul_div_left _ _ hg, Nat.div_eq_of_lt h]; omega
    have e2 : (n + 1) % g = n % g + 1 := by
      rw [show n + 1 = (n % g + 1) + g * (n / g) from by omega, Nat.add_mul_mod_self_left, Nat.mod_eq_of_lt h]
    rw [e1, e2]
    generalize n % g = r at *
    generalize n / g = q at *
    split <;> split <;> omega
  · have e1 : (n + 1) / g = n / g + 1 := by
      rw [show n + 1 = g * (n / g + 1) from by rw [Nat.mul_add]; omega, Nat.mul_div_cancel_left _ hg]
    rw [e1]
    split <;> split <;> omega
theorem rdiv_mono {a b : Nat} (h : a ≤ b) (d : Nat) : rdiv a d ≤ rdiv b d := by
  induction h with
  | refl => exact Nat.le_refl _
  | step _ ih => exact Nat.le_trans ih (rdiv_succ _ _)
theorem rdiv_mul (n d : Nat) : rdiv (n * 2 ^ d) d = n := by
  have := rdiv_scale n 0 d
  rw [Nat.zero_add] at this
  rw [this]
  simp [rdiv, Nat.mod_one]

/-- n * 2^e, to the nearest. -/
def rsh (n : Nat) (e : Int) : Nat := if 0 ≤ e then n * 2 ^ e.toNat else rdiv n (-e).toNat
theorem rsh_scale (n k : Nat) (e : Int) : rsh (n * 2 ^ k) (e - k) = rsh n e := by
  unfold rsh
  by_cases h : 0 ≤ e
  · rw [if_pos h]
    by_cases h2 : 0 ≤ e - k
    · rw [if_pos h2, Nat.mul_assoc, ← Nat.pow_add]
      congr 2; omega
    · rw [if_neg h2]
      obtain ⟨j, hj⟩ : ∃ j : Nat, k = e.toNat + j := ⟨k - e.toNat, by omega⟩
      rw [show (-(e - (k : Int))).toNat = j from by omega, hj, Nat.pow_add, ← Nat.mul_assoc, rdiv_mul]
  · rw [if_neg h, if_neg (by omega)]
    rw [show (-(e - (k : Int))).toNat = (-e).toNat + k from by omega, rdiv_scale]
theorem rsh_mono {a b : Nat} (h : a ≤ b) (e : Int) : rsh a e ≤ rsh b e := by
  unfold rsh
  split
  · exact Nat.mul_le_mul_right _ h
  · exact rdiv_mono h _

def top : Nat := 2047 * 2 ^ 52
/-- The rung nearest to m * 2^p. -/
def rnd (m : Nat) (p : Int) : Nat :=
  if m = 0 then 0 else min ((max (p + m.log2 - 52) (-1074) + 1074).toNat * 2 ^ 52 + rsh m (p - max (p + m.log2 - 52) (-1074))) top

theorem nearest_eq (m : Nat) (p : Int) : double.nearest false m p = rnd m p := by
  unfold Format.nearest rnd
  by_cases hm : m = 0
  · simp [hm, Format.word]
  · rw [if_neg hm, if_neg hm]
    have e1 : double.leastPlace = -1074 := by decide
    have e2 : double.binade = 2 ^ 52 := by decide
    have e3 : double.infRung = top := by decide
    have e4 : (double.fractionBits : Int) = 52 := by decide
    simp only [e1, e2, e3, e4, Format.word, cut_even]
    generalize max (p + m.log2 - 52) (-1074) = L
    have e5 : rdiv (m <<< (p - L).toNat) (L - p).toNat = rsh m (p - L) := by
      unfold rsh
      rw [Nat.shiftLeft_eq]
      by_cases h : 0 ≤ p - L
      · rw [if_pos h, show (L - p).toNat = 0 from by omega]
        simp [rdiv, Nat.mod_one]
      · rw [if_neg h, show (p - L).toNat = 0 from by omega]
        simp only [Nat.pow_zero, Nat.mul_one]
        congr 1; omega
    rw [e5]
    simp [Int.sub_neg]

theorem log2_mul (m k : Nat) (hm : m ≠ 0) : (m * 2 ^ k).log2 = m.log2 + k := by
  have h1 := Nat.log2_self_le hm
  have h2 := lt_log2 m
  have hk : 0 < 2 ^ k := Nat.two_pow_pos k
  rw [Nat.log2_eq_iff (by exact Nat.mul_ne_zero hm (by omega))]
  constructor
  · rw [Nat.pow_add]; exact Nat.mul_le_mul_right _ h1
  · rw [show m.log2 + k + 1 = (m.log2 + 1) + k from by omega, Nat.pow_add]
    exact Nat.mul_lt_mul_of_pos_right h2 hk

theorem rnd_scale (m k : Nat) (p : Int) : rnd (m * 2 ^ k) (p - k) = rnd m p := by
  unfold rnd
  have hk : 0 < 2 ^ k := Nat.two_pow_pos k
  by_cases hm : m = 0
  · simp [hm]
  · rw [if_neg (Nat.mul_ne_zero hm (by omega)), if_neg hm, log2_mul m k hm]
    have e : p - (k : Int) + ((m.log2 + k : Nat) : Int) - 52 = p + m.log2 - 52 := by omega
    rw [e]
    generalize max (p + m.log2 - 52) (-1074) = L
    rw [show p - (k : Int) - L = (p - L) - k from by omega, rsh_scale]

/-- Rounding rises, one unit at a time. -/
theorem rnd_succ (N : Nat) (B : Int) : rnd N B ≤ rnd (N + 1) B := by
  by_cases h0 : N = 0
  · simp [rnd, h0]
  · unfold rnd
    rw [if_neg h0, if_neg (by omega)]
    refine (by intro h; omega : ∀ {a b : Nat}, a ≤ b → min a top ≤ min b top) ?_
    have l1 := Nat.log2_self_le h0
    have l2 := lt_log2 N
    by_cases hl : (N + 1).log2 = N.log2
    · rw [hl]
      exact Nat.add_le_add_left (rsh_mono (by omega) _) _
    · have m1 := Nat.log2_self_le (show N + 1 ≠ 0 by omega)
      have m2 := lt_log2 (N + 1)
      have hge : N.log2 ≤ (N + 1).log2 := by
        apply Classical.byContradiction
        intro hc
        have : 2 ^ ((N + 1).log2 + 1) ≤ 2 ^ N.log2 := Nat.pow_le_pow_right (by omega) (by omega)
        omega
      have hk : (N + 1).log2 = N.log2 + 1 := by
        apply Classical.byContradiction
        intro hc
        have h1 : 2 ^ (N.log2 + 2) ≤ 2 ^ (N + 1).log2 := Nat.pow_le_pow_right (by omega) (by omega)
        have h2 : 2 ^ (N.log2 + 2) = 2 * 2 ^ (N.log2 + 1) := by rw [Nat.pow_succ]; omega
        omega
      rw [hk]
      rw [hk] at m1
      generalize hL : N.log2 = L at *
      have hN : N + 1 = 2 ^ (L + 1) := by omega
      by_cases hsub : B + (L + 1 : Nat) - 52 ≤ -1074
      · rw [show max (B + (L + 1 : Nat) - 52) (-1074) = -1074 from by omega, show max (B + (L : Nat) - 52) (-1074) = -1074 from by omega]
        exact Nat.add_le_add_left (rsh_mono (by omega) _) _
      · rw [show max (B + (L + 1 : Nat) - 52) (-1074) = B + (L + 1 : Nat) - 52 from by omega, show max (B + (L : Nat) - 52) (-1074) = B + (L : Nat) - 52 from by omega]
        have r1 : rsh (N + 1) (B - (B + (L + 1 : Nat) - 52)) = 2 ^ 52 := by
          rw [hN]
          have := rsh_scale 1 (L + 1) 52
          rw [Nat.one_mul] at this
          rw [show B - (B + ((L + 1 : Nat) : Int) - 52) = 52 - ((L + 1 : Nat) : Int) from by omega, this]
          simp [rsh]
        have r2 : rsh N (B - (B + (L : Nat) - 52)) ≤ 2 ^ 53 := by
          refine Nat.le_trans (rsh_mono (show N ≤ 2 ^ (L + 1) by omega) _) ?_
          have := rsh_scale 1 (L + 1) 53
          rw [Nat.one_mul] at this
          rw [show B - (B + (L : Int) - 52) = 53 - ((L + 1 : Nat) : Int) from by omega, this]
          simp [rsh]
        rw [r1]
        have e3 : (B + ((L + 1 : Nat) : Int) - 52 + 1074).toNat = (B + (L : Int) - 52 + 1074).toNat + 1 := by omega
        rw [e3, Nat.add_mul]
        have : (2 : Nat) ^ 53 = 2 ^ 52 + 2 ^ 52 := by decide
        omega
theorem rnd_mono {a b : Nat} (h : a ≤ b) (B : Int) : rnd a B ≤ rnd b B := by
  induction h with
  | refl => exact Nat.le_refl _
  | step _ ih => exact Nat.le_trans ih (rnd_succ _ _)

/-- The magnitude and the place of a rung; its value in units of 2^-1074. -/
def mag (r : Nat) : Nat := if r < 2 ^ 52 then r else 2 ^ 52 + r % 2 ^ 52
def plc (r : Nat) : Int := if r < 2 ^ 52 then -1074 else -1074 + (r / 2 ^ 52 - 1 : Nat)
def val (r : Nat) : Nat := mag r * 2 ^ (plc r + 1074).toNat
theorem plc_ge (r : Nat) : -1074 ≤ plc r := by unfold plc; split <;> omega

theorem read_eq (r : Nat) (h : r < top) : double.read r = .number false (mag r) (plc r) := by
  have e1 : double.signWeight = 2 ^ 63 := by decide
  have e2 : double.binade = 2 ^ 52 := by decide
  have e3 : double.infRung = top := by decide
  have e4 : double.leastPlace = -1074 := by decide
  have ht : top < 2 ^ 63 := by decide
  unfold Format.read
  rw [e1, e2, e3, e4]
  have h1 : r / 2 ^ 63 = 0 := Nat.div_eq_of_lt (by omega)
  have h2 : r % 2 ^ 63 = r := Nat.mod_eq_of_lt (by omega)
  simp only [h1, h2]
  unfold mag plc
  by_cases h3 : r < 2 ^ 52
  · simp [h3]
  · simp [h3, h]

theorem val_succ (r : Nat) : val r < val (r + 1) := by
  unfold val mag plc
  have hp : (0 : Nat) < 2 ^ 52 := by decide
  by_cases h1 : r + 1 < 2 ^ 52
  · rw [if_pos h1, if_pos h1, if_pos (by omega), if_pos (by omega)]
    simp
  · by_cases h2 : r + 1 = 2 ^ 52
    · have : r = 2 ^ 52 - 1 := by omega
      subst this
      decide
    · rw [if_neg (by omega), if_neg (by omega), if_neg (by omega), if_neg (by omega)]
      have hq : 1 ≤ r / 2 ^ 52 := (Nat.le_div_iff_mul_le hp).2 (by omega)
      have hdm := Nat.div_add_mod r (2 ^ 52)
      have hlt := Nat.mod_lt r hp
      by_cases h3 : r % 2 ^ 52 + 1 < 2 ^ 52
      · have e1 : (r + 1) / 2 ^ 52 = r / 2 ^ 52 := by
          rw [show r + 1 = (r % 2 ^ 52 + 1) + 2 ^ 52 * (r / 2 ^ 52) from by omega, Nat.add_mul_div_left _ _ hp, Nat.div_eq_of_lt h3]; omega
        have e2 : (r + 1) % 2 ^ 52 = r % 2 ^ 52 + 1 := by
          rw [show r + 1 = (r % 2 ^ 52 + 1) + 2 ^ 52 * (r / 2 ^ 52) from by omega, Nat.add_mul_mod_self_left, Nat.mod_eq_of_lt h3]
        rw [e1, e2]
        exact Nat.mul_lt_mul_of_pos_right (by omega) (Nat.two_pow_pos _)
      · have e1 : (r + 1) / 2 ^ 52 = r / 2 ^ 52 + 1 := by
          rw [show r + 1 = 2 ^ 52 * (r / 2 ^ 52 + 1) from by rw [Nat.mul_add]; omega, Nat.mul_div_cancel_left _ hp]
        have e2 : (r + 1) % 2 ^ 52 = 0 := by
          rw [show r + 1 = 2 ^ 52 * (r / 2 ^ 52 + 1) from by rw [Nat.mul_add]; omega, Nat.mul_mod_right]
        rw [e1, e2]
        generalize r / 2 ^ 52 = q at *
        generalize r % 2 ^ 52 = m at *
        rw [show (-1074 + ((q + 1 - 1 : Nat) : Int) + 1074).toNat = (q - 1) + 1 from by omega, show (-1074 + ((q - 1 : Nat) : Int) + 1074).toNat = q - 1 from by omega, show 2 ^ (q - 1 + 1) = 2 ^ (q - 1) * 2 from Nat.pow_succ ..]
        have : 0 < 2 ^ (q - 1) := Nat.two_pow_pos _
        generalize 2 ^ (q - 1) = z at *
        have e : (2 ^ 52 + 0) * (z * 2) = (2 ^ 52 + 2 ^ 52) * z := by rw [Nat.add_zero, Nat.add_mul, Nat.mul_comm z 2, ← Nat.mul_assoc, Nat.mul_comm _ 2, Nat.mul_assoc]; omega
        rw [e]
        exact Nat.mul_lt_mul_of_pos_right (by omega) this
theorem val_lt {a b : Nat} (h : a < b) : val a < val b := by
  induction h with
  | refl => exact val_succ _
  | step _ ih => exact Nat.lt_trans ih (val_succ _)
theorem val_le {a b : Nat} (h : a ≤ b) : val a ≤ val b := by
  rcases Nat.lt_or_eq_of_le h with h | rfl
  · exact Nat.le_of_lt (val_lt h)
  · exact Nat.le_refl _

/-- What is exact stays as it is. -/
theorem rnd_val (r : Nat) (h : r < top) : rnd (val r) (-1074) = r := by
  have hp : (0 : Nat) < 2 ^ 52 := by decide
  by_cases h1 : r < 2 ^ 52
  · have hv : val r = r := by unfold val mag plc; rw [if_pos h1, if_pos h1]; simp
    rw [hv]
    unfold rnd
    by_cases h0 : r = 0
    · simp [h0]
    · rw [if_neg h0]
      have : r.log2 < 52 := (Nat.log2_lt h0).2 h1
      rw [show max (-1074 + (r.log2 : Int) - 52) (-1074) = -1074 from by omega]
      simp [rsh]
      omega
  · have hq : 1 ≤ r / 2 ^ 52 := (Nat.le_div_iff_mul_le hp).2 (by omega)
    have hdm := Nat.div_add_mod r (2 ^ 52)
    have hlt := Nat.mod_lt r hp
    have e := rnd_scale (mag r) (plc r + 1074).toNat (plc r)
    have hpl := plc_ge r
    rw [show plc r - ((plc r + 1074).toNat : Int) = -1074 from by omega] at e
    unfold val
    rw [e]
    have hm : mag r = 2 ^ 52 + r % 2 ^ 52 := by unfold mag; rw [if_neg h1]
    have hpc : plc r = -1074 + (r / 2 ^ 52 - 1 : Nat) := by unfold plc; rw [if_neg h1]
    rw [hm, hpc]
    unfold rnd
    rw [if_neg (by omega)]
    have hl : (2 ^ 52 + r % 2 ^ 52).log2 = 52 := by
      rw [Nat.log2_eq_iff (by omega)]
      have : (2 : Nat) ^ (52 + 1) = 2 ^ 52 + 2 ^ 52 := by decide
      omega
    rw [hl]
    generalize r / 2 ^ 52 = q at *
    generalize r % 2 ^ 52 = m at *
    rw [show max (-1074 + ((q - 1 : Nat) : Int) + ((52 : Nat) : Int) - 52) (-1074) = -1074 + ((q - 1 : Nat) : Int) from by omega]
    rw [show (-1074 + ((q - 1 : Nat) : Int) + 1074).toNat = q - 1 from by omega, show -1074 + ((q - 1 : Nat) : Int) - (-1074 + ((q - 1 : Nat) : Int)) = 0 from by omega]
    have e3 : rsh (2 ^ 52 + m) 0 = 2 ^ 52 + m := by simp [rsh]
    rw [e3]
    have e4 : (q - 1) * 2 ^ 52 + (2 ^ 52 + m) = r := by
      obtain ⟨k, rfl⟩ : ∃ k, q = k + 1 := ⟨q - 1, by omega⟩
      rw [← hdm, Nat.mul_add, Nat.add_sub_cancel, Nat.mul_comm k]
      omega
    rw [e4]
    omega
theorem val_shift (r : Nat) (i : Int) (h : -1074 ≤ i) (h2 : i ≤ plc r) : (mag r <<< (plc r - i).toNat) * 2 ^ (i + 1074).toNat = val r := by
  unfold val
  rw [Nat.shiftLeft_eq, Nat.mul_assoc, ← Nat.pow_add]
  congr 2; omega

/-- Two numbers stand to each other as their rungs do. -/
theorem order_eq (r s : Nat) (hr : r < top) (hs : s < top) : double.order r s = some (compare r s) := by
  unfold Format.order
  rw [read_eq r hr, read_eq s hs]
  simp only [Datum.order, signed]
  have a1 := val_shift r (min (plc r) (plc s)) (by have := plc_ge r; have := plc_ge s; omega) (by omega)
  have a2 := val_shift s (min (plc r) (plc s)) (by have := plc_ge r; have := plc_ge s; omega) (by omega)
  have hp : 0 < 2 ^ (min (plc r) (plc s) + 1074).toNat := Nat.two_pow_pos _
  generalize mag r <<< (plc r - min (plc r) (plc s)).toNat = x at *
  generalize mag s <<< (plc s - min (plc r) (plc s)).toNat = y at *
  generalize 2 ^ (min (plc r) (plc s) + 1074).toNat = z at *
  simp only [Bool.false_eq_true, if_false]
  congr 1
  rcases Nat.lt_trichotomy r s with h | h | h
  · have h1 : x < y := Nat.lt_of_mul_lt_mul_right (a := z) (by rw [a1, a2]; exact val_lt h)
    rw [Nat.compare_eq_lt.2 h]; exact Int.compare_eq_lt.2 (by omega)
  · subst h
    have h1 : x = y := Nat.eq_of_mul_eq_mul_right hp (by rw [a1, a2])
    subst h1
    simp
  · have h1 : y < x := Nat.lt_of_mul_lt_mul_right (a := z) (by rw [a1, a2]; exact val_lt h)
    rw [Nat.compare_eq_gt.2 h]; exact Int.compare_eq_gt.2 (by omega)

theorem mul_eq (r s : Nat) (hr : r < top) (hs : s < top) : double.mul r s = some (rnd (val r * val s) (-2148)) := by
  unfold Format.mul
  rw [read_eq r hr, read_eq s hs]
  simp only [Datum.product, Option.map_some, Format.write, Bool.xor_false, bne_self_eq_false]
  rw [nearest_eq]
  have h1 := plc_ge r
  have h2 := plc_ge s
  have e : val r * val s = mag r * mag s * 2 ^ (plc r + plc s + 2148).toNat := by
    unfold val
    rw [show (plc r + plc s + 2148).toNat = (plc r + 1074).toNat + (plc s + 1074).toNat from by omega, Nat.pow_add]
    simp only [Nat.mul_assoc, Nat.mul_left_comm]
  rw [e]
  have := rnd_scale (mag r * mag s) (plc r + plc s + 2148).toNat (plc r + plc s)
  rw [show plc r + plc s - ((plc r + plc s + 2148).toNat : Int) = -2148 from by omega] at this
  rw [this]

theorem diff_eq (x y : Nat) (b : Int) (h : y ≤ x) :
    double.write (.number (if (x : Int) + -(y : Int) = 0 then false && !false else decide ((x : Int) + -(y : Int) < 0)) ((x : Int) + -(y : Int)).natAbs b) = rnd (x - y) b := by
  have e1 : ((x : Int) + -(y : Int)).natAbs = x - y := by omega
  have e2 : (if (x : Int) + -(y : Int) = 0 then false && !false else decide ((x : Int) + -(y : Int) < 0)) = false := by
    split
    · rfl
    · simp; omega
  rw [e1, e2]
  simp only [Format.write]
  rw [nearest_eq]
theorem sub_eq (r s : Nat) (hr : r < top) (hs : s ≤ r) : double.sub r s = some (rnd (val r - val s) (-1074)) := by
  have a1 := val_shift r (min (plc r) (plc s)) (by have := plc_ge r; have := plc_ge s; omega) (by omega)
  have a2 := val_shift s (min (plc r) (plc s)) (by have := plc_ge r; have := plc_ge s; omega) (by omega)
  have hpg : -1074 ≤ min (plc r) (plc s) := by have := plc_ge r; have := plc_ge s; omega
  have hp : 0 < 2 ^ (min (plc r) (plc s) + 1074).toNat := Nat.two_pow_pos _
  have hv := val_le hs
  unfold Format.sub
  rw [read_eq r hr, read_eq s (by omega)]
  have hxy : mag s <<< (plc s - min (plc r) (plc s)).toNat ≤ mag r <<< (plc r - min (plc r) (plc s)).toNat := Nat.le_of_mul_le_mul_right (by rw [a1, a2]; exact hv) hp
  refine (congrArg some (diff_eq _ _ _ hxy)).trans ?_
  rw [← a1, ← a2, ← Nat.mul_sub_right_distrib]
  have := rnd_scale (mag r <<< (plc r - min (plc r) (plc s)).toNat - mag s <<< (plc s - min (plc r) (plc s)).toNat) (min (plc r) (plc s) + 1074).toNat (min (plc r) (plc s))
  rw [show min (plc r) (plc s) - ((min (plc r) (plc s) + 1074).toNat : Int) = -1074 from by omega] at this
  rw [this]

/-- One, in units of 2^-1074. -/
def UE : Nat := 1074
theorem UE_eq : UE = 1074 := rfl
def U : Nat := 2 ^ UE
theorem U_eq : U = 2 ^ UE := rfl
theorem U_pos : 0 < U := Nat.two_pow_pos _
theorem part_eq (r : Nat) : mag r <<< (plc r).toNat / 2 ^ (-plc r).toNat = val r / U ∧ (mag r <<< (plc r).toNat % 2 ^ (-plc r).toNat = 0 ↔ val r % U = 0) := by
  have h := plc_ge r
  unfold val
  by_cases h0 : 0 ≤ plc r
  · rw [show (-plc r).toNat = 0 from by omega, show (plc r + 1074).toNat = (plc r).toNat + UE from by rw [UE_eq]; omega, Nat.pow_add, ← U_eq, ← Nat.mul_assoc, Nat.shiftLeft_eq, Nat.mul_div_cancel _ U_pos, Nat.mul_mod_left]
    simp [Nat.mod_one]
  · rw [show (plc r).toNat = 0 from by omega, Nat.shiftLeft_zero]
    have e : U = 2 ^ (-plc r).toNat * 2 ^ (plc r + 1074).toNat := by rw [← Nat.pow_add, U_eq]; congr 1; rw [UE_eq]; omega
    have hk : 0 < 2 ^ (plc r + 1074).toNat := Nat.two_pow_pos _
    rw [e, Nat.mul_div_mul_right _ _ hk, Nat.mul_mod_mul_right]
    refine ⟨rfl, fun h => by rw [h, Nat.zero_mul], fun h => ?_⟩
    rcases Nat.mul_eq_zero.1 h with h | h
    · exact h
    · omega

/-- A number's whole part. -/
theorem toInt_eq (r : Nat) (hr : r < top) : (double.read r).toInt .zero = some ((val r / U : Nat) : Int) := by
  rw [read_eq r hr]
  simp only [Datum.toInt, Datum.integral, signed, cut_zero, (part_eq r).1]
  simp

/-- A number made whole, upwards. -/
def up (r : Nat) : Nat := val r / U + if val r % U = 0 then 0 else 1
theorem ceil_eq (r : Nat) (hr : r < top) : double.write ((double.read r).integral .up) = rnd (up r) 0 := by
  rw [read_eq r hr]
  simp only [Datum.integral, Format.write, cut_up, nearest_eq, (part_eq r).1, (part_eq r).2]
  rfl

/-- Small whole numbers are exact. -/
theorem small_eq (c : Nat) (hc : c < 2 ^ 52) : rnd c 0 < top ∧ val (rnd c 0) = c * U := by
  by_cases h0 : c = 0
  · subst h0; exact ⟨by decide, by simp [rnd, val, mag]⟩
  · have l1 := Nat.log2_self_le h0
    have l2 := lt_log2 c
    have hL : c.log2 < 52 := (Nat.log2_lt h0).2 hc
    generalize c.log2 = L at *
    have hm1 : 2 ^ 52 ≤ c * 2 ^ (52 - L) := by
      rw [show (2 : Nat) ^ 52 = 2 ^ L * 2 ^ (52 - L) from by rw [← Nat.pow_add]; congr 1; omega]
      exact Nat.mul_le_mul_right _ l1
    have hm2 : c * 2 ^ (52 - L) < 2 ^ 52 + 2 ^ 52 := by
      rw [show (2 : Nat) ^ 52 + 2 ^ 52 = 2 ^ (L + 1) * 2 ^ (52 - L) from by rw [← Nat.pow_add, show L + 1 + (52 - L) = 53 from by omega]]
      exact Nat.mul_lt_mul_of_pos_right l2 (Nat.two_pow_pos _)
    obtain ⟨f, hf⟩ : ∃ f, c * 2 ^ (52 - L) = 2 ^ 52 + f := ⟨c * 2 ^ (52 - L) - 2 ^ 52, by omega⟩
    have hp : (0 : Nat) < 2 ^ 52 := by decide
    have hval : val (2 ^ 52 * (L + 1023) + f) = c * U := by
      have q1 : (2 ^ 52 * (L + 1023) + f) / 2 ^ 52 = L + 1023 := by
        rw [Nat.mul_add_div hp, Nat.div_eq_of_lt (by omega), Nat.add_zero]
      have q2 : (2 ^ 52 * (L + 1023) + f) % 2 ^ 52 = f := by rw [Nat.mul_add_mod, Nat.mod_eq_of_lt (by omega)]
      have q3 : ¬ 2 ^ 52 * (L + 1023) + f < 2 ^ 52 := by omega
      generalize 2 ^ 52 * (L + 1023) + f = X at *
      have q4 : 52 - L + (-1074 + ((L + 1023 - 1 : Nat) : Int) + 1074).toNat = UE := by rw [UE_eq]; omega
      unfold val mag plc
      rw [if_neg q3, if_neg q3, q1, q2, ← hf, Nat.mul_assoc, ← Nat.pow_add, q4, U_eq]
    have ht : 2 ^ 52 * (L + 1023) + f < top := by unfold top; omega
    have hr : rnd c 0 = 2 ^ 52 * (L + 1023) + f := by
      have := rnd_scale c UE 0
      rw [← this, ← U_eq, ← hval]
      exact rnd_val _ ht
    rw [hr]
    exact ⟨ht, hval⟩

theorem rnd_le_top (m : Nat) (p : Int) : rnd m p ≤ top := by
  unfold rnd
  split
  · exact Nat.zero_le _
  · exact Nat.min_le_right _ _
end Go.Proofs.Ytilfngegmdedpaa.Fl
