/- What the given program's waits come to, in bits: plain facts. -/
import Derived.Test.YtilfngegmdedpaaFl
set_option linter.unusedVariables false
set_option linter.unusedSimpArgs false
namespace Go.Proofs.Ytilfngegmdedpaa.Fl
open Ieee

/-- A number, not below 0. -/
def Fin (x : Nat) : Prop := x < top
/-- A thousand. -/
def K3 : Nat := 0x408F400000000000
theorem K3_eq : K3 = 0x408F400000000000 := rfl
theorem K3_top : K3 < top := by decide

/-- Clean(x, 0, 1000). -/
def cleanB (x : Nat) : Nat :=
  if (double.order x x != some .eq) = true then 0 else if (double.order x 0 == some .lt) = true then 0
  else if (double.order x K3 == some .gt) = true then K3 else if (double.order x 0 == some .eq) = true then 0 else x

theorem cleanB_le (x : Nat) (hx : x < 2 ^ 64) : cleanB x ≤ K3 := by
  unfold cleanB
  split
  · exact Nat.zero_le _
  · rename_i h1
    split
    · exact Nat.zero_le _
    · rename_i h2
      split
      · exact Nat.le_refl _
      · rename_i h3
        split
        · exact Nat.zero_le _
        · rename_i h4
          by_cases ht : x < top
          · rw [order_eq x K3 ht K3_top] at h3
            rcases Nat.lt_trichotomy x K3 with h | h | h
            · omega
            · omega
            · rw [Nat.compare_eq_gt.2 h] at h3; simp at h3
          · exfalso
            have r0 : double.read 0 = .number false 0 (-1074) := by decide
            have rk := read_eq K3 K3_top
            have e1 : double.signWeight = 2 ^ 63 := by decide
            have e2 : double.binade = 2 ^ 52 := by decide
            have e3 : double.infRung = top := by decide
            simp only [Format.order] at h1 h2 h3 h4
            rw [rk] at h3
            rw [r0] at h2 h4
            have hread : double.read x = .infinity false ∨ double.read x = .infinity true ∨ (∃ s f, double.read x = .nan s f) ∨ ∃ m i, double.read x = .number true m i := by
              unfold Format.read
              rw [e1, e2, e3]
              have hd : x / 2 ^ 63 < 2 := Nat.div_lt_of_lt_mul (by have : (2:Nat) ^ 64 = 2 ^ 63 * 2 := by decide
                                                                   omega)
              by_cases hs : x / 2 ^ 63 = 1
              · simp only [hs]
                generalize x % 2 ^ 63 = y
                by_cases a1 : y < 2 ^ 52
                · simp [a1]
                · by_cases a2 : y < top
                  · simp [a1, a2]
                  · by_cases a3 : y = top
                    · subst a3; simp [show ¬ top < 2 ^ 52 by decide]
                    · simp [a1, a2, a3]
              · have hs0 : x / 2 ^ 63 = 0 := by omega
                have hy : x % 2 ^ 63 = x := Nat.mod_eq_of_lt (by have := Nat.div_add_mod x (2 ^ 63); rw [hs0] at this; have := Nat.mod_lt x (show 0 < 2 ^ 63 by decide); omega)
                simp only [hs0, hy]
                have a1 : ¬ x < 2 ^ 52 := by unfold top at ht; omega
                by_cases a3 : x = top
                · subst a3; simp [show ¬ top < 2 ^ 52 by decide]
                · simp [a1, ht, a3]
            rcases hread with hr | hr | ⟨s, f, hr⟩ | ⟨m, i, hr⟩
            · rw [hr] at h3; simp [Datum.order] at h3
            · rw [hr] at h2; simp [Datum.order] at h2
            · rw [hr] at h1; simp [Datum.order] at h1
            · rw [hr] at h2 h4
              simp only [Datum.order, signed] at h2 h4
              generalize m <<< (i - min i (-1074)).toNat = z at *
              simp at h2 h4
              rcases Int.lt_trichotomy (-(z : Int)) 0 with h | h | h
              · exact h2 (Int.compare_eq_lt.2 h)
              · exact h4 (by omega)
              · omega

/-- K nodes' bits, as a number. -/
def great (l k : Nat) : Nat := if rnd (val l * val (rnd k 0)) (-2148) < l then l else rnd (val l * val (rnd k 0)) (-2148)
def K64 : Nat := 0x40EF400000000000
theorem K64_top : K64 < top := by decide
theorem K3_64 : K3 ≤ K64 := by decide
theorem raw_le (l k : Nat) (hl : l ≤ K3) (hk : k ≤ 64) : rnd (val l * val (rnd k 0)) (-2148) ≤ K64 := by
  obtain ⟨_, h1⟩ := small_eq k (by omega)
  have h3 : val l ≤ 1000 * U := by
    refine Nat.le_trans (val_le hl) ?_
    obtain ⟨_, h⟩ := small_eq 1000 (by decide)
    rw [← h]
    exact Nat.le_of_eq (congrArg val (by decide))
  have h4 : val l * val (rnd k 0) ≤ 64000 * (U * U) := by
    rw [h1]
    calc val l * (k * U) ≤ 1000 * U * (64 * U) := Nat.mul_le_mul h3 (Nat.mul_le_mul_right _ hk)
      _ = 64000 * (U * U) := by rw [Nat.mul_mul_mul_comm]
  refine Nat.le_trans (rnd_mono h4 _) ?_
  have h5 := rnd_scale 64000 (UE + UE) 0
  rw [Nat.pow_add, ← U_eq] at h5
  rw [show (0 : Int) - ((UE + UE : Nat) : Int) = -2148 from by decide] at h5
  rw [h5]
  decide
theorem great_le (l k : Nat) (hl : l ≤ K3) (hk : k ≤ 64) : great l k ≤ K64 := by
  unfold great
  split
  · exact Nat.le_trans hl K3_64
  · exact raw_le l k hl hk
theorem le_great (l k : Nat) : l ≤ great l k := by
  unfold great
  split <;> omega
/-- A third, and two. -/
def Q1 : Nat := 0x3FD5555555555555
def Q2 : Nat := 0x3FE5555555555555
def qB (told : Int) : Nat := if told = 1 then Q1 else Q2
theorem div1 : double.div (rnd 1 0) (rnd 3 0) = some Q1 := by decide
theorem div2 : double.div (rnd 2 0) (rnd 3 0) = some Q2 := by decide
theorem val_Q (told : Int) : val (qB told) ≤ U := by
  obtain ⟨_, h⟩ := small_eq 1 (by decide)
  rw [Nat.one_mul] at h
  rw [← h]
  refine val_le ?_
  unfold qB
  split <;> decide
theorem qB_top (told : Int) : qB told < top := by unfold qB; split <;> decide

def gap (g l : Nat) : Nat := rnd (val g - val l) (-1074)
theorem gap_le (g l : Nat) (hg : g < top) : gap g l ≤ g := by
  have := rnd_mono (show val g - val l ≤ val g by omega) (-1074)
  rw [rnd_val g hg] at this
  exact this
def cut (q g l : Nat) : Nat := rnd (val q * val (gap g l)) (-2148)
theorem cut_le (told : Int) (g l : Nat) (hg : g < top) : cut (qB told) g l ≤ gap g l := by
  have hd : gap g l < top := Nat.lt_of_le_of_lt (gap_le g l hg) hg
  have h1 := rnd_mono (Nat.mul_le_mul_right (val (gap g l)) (val_Q told)) (-2148)
  have h2 := rnd_scale (val (gap g l)) UE (-1074)
  rw [← U_eq, rnd_val _ hd, Nat.mul_comm, show (-1074 : Int) - (UE : Int) = -2148 from by decide] at h2
  rw [h2] at h1
  exact h1
theorem cut_le' (told : Int) (g l : Nat) (hg : g < top) : cut (qB told) g l ≤ g := Nat.le_trans (cut_le told g l hg) (gap_le g l hg)
def rest (q g l : Nat) : Nat := rnd (val g - val (cut q g l)) (-1074)
theorem rest_le (q g l : Nat) (hg : g < top) : rest q g l ≤ g := by
  have := rnd_mono (show val g - val (cut q g l) ≤ val g by omega) (-1074)
  rw [rnd_val g hg] at this
  exact this
/-- The wait of base l (clean), with bits k, with so many who told it, of three. -/
def waitB (l k : Nat) (told : Int) : Nat :=
  if told ≤ 0 then great l k else if 3 ≤ told then l
  else if rest (qB told) (great l k) l < l then l else rest (qB told) (great l k) l
theorem waitB_le (l k : Nat) (told : Int) (hl : l ≤ K3) (hk : k ≤ 64) : waitB l k told ≤ K64 := by
  have hg := great_le l k hl hk
  have hr := rest_le (qB told) (great l k) l (Nat.lt_of_le_of_lt hg K64_top)
  have := K3_64
  unfold waitB
  split
  · exact hg
  · split
    · omega
    · split <;> omega
theorem le_waitB (l k : Nat) (told : Int) : l ≤ waitB l k told := by
  unfold waitB
  split
  · exact le_great l k
  · split
    · exact Nat.le_refl _
    · split <;> omega
theorem waitB_mono (l k : Nat) (t : Nat) (hl : l ≤ K3) (hk : k ≤ 64) : waitB l k ((t + 1 : Nat) : Int) ≤ waitB l k (t : Int) := by
  have hg := Nat.lt_of_le_of_lt (great_le l k hl hk) K64_top
  have hlg := le_great l k
  have h0 := le_waitB l k (t : Int)
  rcases (by omega : t = 0 ∨ t = 1 ∨ 2 ≤ t) with rfl | rfl | h
  · have hr := rest_le (qB 1) (great l k) l hg
    unfold waitB
    simp
    split <;> omega
  · have hc : cut (qB 1) (great l k) l ≤ cut (qB 2) (great l k) l := rnd_mono (Nat.mul_le_mul_right _ (val_le (by decide))) _
    have hr : rest (qB 2) (great l k) l ≤ rest (qB 1) (great l k) l := rnd_mono (Nat.sub_le_sub_left (val_le hc) _) _
    unfold waitB
    simp
    split <;> split <;> omega
  · have : waitB l k ((t + 1 : Nat) : Int) = l := by
      unfold waitB
      rw [if_neg (by omega), if_pos (by omega)]
    rw [this]; exact h0
/-- The ticks of a wait. -/
theorem up_mono {a b : Nat} (h : a ≤ b) : up a ≤ up b := by
  have hv := val_le h
  have hU := U_pos
  unfold up
  have da := Nat.div_add_mod (val a) U
  have db := Nat.div_add_mod (val b) U
  have la := Nat.mod_lt (val a) hU
  have hd : val a / U ≤ val b / U := Nat.div_le_div_right hv
  rcases Nat.lt_or_eq_of_le hd with h1 | h1
  · split <;> split <;> omega
  · rw [h1] at da ⊢
    split <;> split <;> omega
theorem up_K64 : up K64 = 64000 := by
  obtain ⟨_, h⟩ := small_eq 64000 (by decide)
  rw [show rnd 64000 0 = K64 from by decide] at h
  unfold up
  rw [h, Nat.mul_div_cancel _ U_pos, Nat.mul_mod_left]
  rfl
theorem up_le (x : Nat) (h : x ≤ K64) : up x ≤ 64000 := by
  have := up_mono h
  rw [up_K64] at this
  exact this
theorem up_small (x : Nat) (h : x < top) (hu : up x ≤ 64000) : rnd (up x) 0 < top ∧ (double.read (rnd (up x) 0)).toInt .zero = some ((up x : Nat) : Int) := by
  obtain ⟨h1, h2⟩ := small_eq (up x) (by omega)
  refine ⟨h1, ?_⟩
  rw [toInt_eq _ h1, h2, Nat.mul_div_cancel _ U_pos]
/-- The number that was cut down is below it just where it was not whole. -/
theorem cut_lt (x : Nat) (h : x ≤ K64) : (rnd (val x / U) 0 < x ↔ ¬ val x % U = 0) ∧ rnd (val x / U) 0 < top ∧ rnd (val x / U) 0 ≤ x := by
  have hs : val x / U ≤ 64000 := by have := up_le x h; unfold up at this; omega
  obtain ⟨h1, h2⟩ := small_eq (val x / U) (by omega)
  have hdm := Nat.div_add_mod (val x) U
  have hiff : ¬ x < rnd (val x / U) 0 := by
    intro hc
    have := val_lt hc
    rw [h2, Nat.mul_comm] at this
    omega
  refine ⟨⟨fun hc => ?_, fun hc => ?_⟩, h1, by omega⟩
  · have := val_lt hc
    rw [h2, Nat.mul_comm] at this
    omega
  · apply Classical.byContradiction
    intro hn
    have he : rnd (val x / U) 0 = x := by omega
    rw [he, Nat.mul_comm] at h2
    omega
end Go.Proofs.Ytilfngegmdedpaa.Fl
