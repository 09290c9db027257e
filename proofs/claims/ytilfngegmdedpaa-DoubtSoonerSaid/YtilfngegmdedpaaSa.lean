/- DoubtSooner: plain laws: with one more who tells it a doubt is over no later; what has been told. -/
import Derived.Test.YtilfngegmdedpaaDw
set_option linter.unusedVariables false
set_option linter.unusedSimpArgs false
namespace Go.Proofs.Ytilfngegmdedpaa
open Go.RowKit Go.Shelf Go.Proofs

theorem laterB_mono (t : Nat) (ht : t < 2 ^ 64) {a b : Nat} (h : a ≤ b) : laterB t a ≤ laterB t b := by
  have : (2 : Nat) ^ 64 = 18446744073709551616 := by decide
  unfold laterB
  split <;> split <;> omega
theorem laterB_ge (t a : Nat) (ht : t < 2 ^ 64) : t ≤ laterB t a := by
  have : (2 : Nat) ^ 64 = 18446744073709551616 := by decide
  unfold laterB
  split <;> omega
theorem wrap_told (t : Nat) (h : t < 1000) : IntKind.i64.wrap (t : Int) = (t : Int) := by
  rw [IntKind.wrap_i64]
  omega
theorem end_mono (base : Nat) (hb : base < 18446744073709551616) (n : Int) (hn : n ≤ 9223372036854775807) (s t : Nat) (hs : s < 2 ^ 64) (ht : t + 1 < 1000) : endB base n s (t + 1) ≤ endB base n s t := by
  unfold endB
  rw [wrap_told t (by omega), wrap_told (t + 1) ht]
  exact laterB_mono s hs (Fl.up_mono (Fl.waitB_mono _ _ t (Fl.cleanB_le base hb) (kB_le n hn)))

/-- What stands after k told. -/
def ToldInv (k s base : Nat) (nodes : Int) (l : List Dbt) (m : List (Int × Value)) (U : Nat) : Prop :=
  (k = 0 ∧ l = [] ∧ m = [] ∧ U = 18446744073709551615) ∨
  (0 < k ∧ ∃ who told, l = [⟨9, 4, who, s, told, U⟩] ∧ U = endB base nodes s told ∧ m.length = told + 1 ∧ told < k ∧ who < 2 ^ 64 ∧ ∀ j : Nat, j < 64 → mget m (j : Int) = if who.testBit j then some (.bool true) else none)

theorem mput_len (m : List (Int × Value)) (n : Int) (v : Value) : (mput m n v).length = if (mget m n).isSome then m.length else m.length + 1 := by
  rw [mget_idx]
  unfold mput
  cases h : m.findIdx? (fun p => p.1 == n) with
  | none => simp
  | some i => simp

theorem rstep_yes {x : Dbt} {node inc n now base : Nat} {nodes : Int} (heq : x.inc = inc) (hbit : x.who.testBit n = true) : rstep (some x) node inc n now base nodes = (none, false, 0) := (if_neg (by omega)).trans ((if_pos heq).trans (if_pos hbit))
theorem rstep_no {x : Dbt} {node inc n now base : Nat} {nodes : Int} (heq : x.inc = inc) (hbit : x.who.testBit n = false) : rstep (some x) node inc n now base nodes = (some (more x n base nodes), true, 0) := (if_neg (by omega)).trans ((if_pos heq).trans (if_neg (by simp [hbit])))
theorem lput_one (a b c d e f g h : Nat) : lput [⟨9, 4, a, b, c, d⟩] ⟨9, 4, e, f, g, h⟩ = [⟨9, 4, e, f, g, h⟩] := rfl
theorem lget_one (a b c d : Nat) : lget [⟨9, 4, a, b, c, d⟩] 9 = some ⟨9, 4, a, b, c, d⟩ := rfl
/-- What one more Raise comes to. -/
theorem told_next {k s base n : Nat} {nodes : Int} {l : List Dbt} {m : List (Int × Value)} {U : Nat} (h : ToldInv k s base nodes l m U) (hn : n < 64) (hk : k < 100) (hb : base < 18446744073709551616) (hnodes : nodes ≤ 9223372036854775807) (hs : s < 2 ^ 64) :
    ∃ (q p : Bool) (o : Option Dbt) (d : Dbt), rres l 9 1 (n : Int) 4 (s + k) base nodes = (o, q, 0) ∧ lstep l o = [d] ∧ (d.node = 9) ∧ (d.inc = 4) ∧ (q == p) = false ∧ (mget m (n : Int)).getD (.bool false) = .bool p ∧ d.til ≤ U ∧ s ≤ d.til ∧ d.since = s ∧
      ToldInv (k + 1) s base nodes [d] (mput m (n : Int) (.bool true)) d.til ∧ d.told + 1 = (mput m (n : Int) (.bool true)).length := by
  have hok : okRaise 9 1 (n : Int) = true := by
    simp [okRaise, mayB]
    omega
  have hr : ∀ l', rres l' 9 1 (n : Int) 4 (s + k) base nodes = rstep (lget l' 9) 9 4 n (s + k) base nodes := fun l' => by
    unfold rres
    rw [if_pos hok]
    rfl
  rcases h with ⟨rfl, rfl, rfl, rfl⟩ | ⟨hk0, who, told, rfl, hU, hml, htk, hw, hm⟩
  · refine ⟨true, false, some (fresh 9 4 n (s + 0) base nodes), fresh 9 4 n (s + 0) base nodes, ?_, rfl, rfl, rfl, rfl, rfl, ?_, ?_, rfl, .inr ⟨by omega, 2 ^ n, 0, rfl, rfl, rfl, by omega, Nat.pow_lt_pow_right (by omega) hn, fun j hj => ?_⟩, rfl⟩
    · rw [hr]; rfl
    · have := laterB_lt (s + 0) (Fl.up (wB base nodes (IntKind.i64.wrap ((0 : Nat) : Int)))) hs
      have h64 : (2 : Nat) ^ 64 = 18446744073709551616 := by decide
      show laterB _ _ ≤ _
      omega
    · exact laterB_ge s _ hs
    · rw [Nat.testBit_two_pow]
      by_cases e : j = n
      · subst e; simp [mput, mget]
      · have e1 : ((n : Int) == (j : Int)) = false := by simp; omega
        have e2 : decide (n = j) = false := by simp; omega
        simp [mput, mget, e1, e2]
  · have hmn := hm n hn
    have hlen := mput_len m (n : Int) (.bool true)
    have hge0 := laterB_ge s (Fl.up (wB base nodes (IntKind.i64.wrap ((told : Nat) : Int)))) hs
    have hge1 := laterB_ge s (Fl.up (wB base nodes (IntKind.i64.wrap ((told + 1 : Nat) : Int)))) hs
    have hmono := end_mono base hb nodes hnodes s told hs (by omega)
    have hge0' : s ≤ endB base nodes s told := hge0
    have hge1' : s ≤ endB base nodes s (told + 1) := hge1
    rw [← hU] at hge0' hmono
    have hmoreU : more ⟨9, 4, who, s, told, U⟩ n base nodes = ⟨9, 4, who ||| 2 ^ n, s, (told + 1) % 2 ^ 64, endB base nodes s ((told + 1) % 2 ^ 64)⟩ := rfl
    clear hge0 hge1
    cases hbit : who.testBit n with
    | true =>
      rw [hbit] at hmn
      simp at hmn
      rw [hmn] at hlen
      simp at hlen
      refine ⟨false, true, none, ⟨9, 4, who, s, told, U⟩, ?_, rfl, rfl, rfl, rfl, by rw [hmn]; rfl, Nat.le_refl _, hge0', rfl, .inr ⟨by omega, who, told, rfl, hU, by omega, by omega, hw, fun j hj => ?_⟩, by show told + 1 = _; omega⟩
      · rw [hr, lget_one]
        exact rstep_yes rfl hbit
      · by_cases e : j = n
        · subst e
          rw [mget_mput_same, hbit]
          rfl
        · rw [mget_mput_other _ _ _ (by omega)]
          exact hm j hj
    | false =>
      rw [hbit] at hmn
      simp at hmn
      rw [hmn] at hlen
      simp at hlen
      have h64 : (2 : Nat) ^ 64 = 18446744073709551616 := by decide
      have htd : (told + 1) % 2 ^ 64 = told + 1 := Nat.mod_eq_of_lt (by omega)
      rw [htd] at hmoreU
      generalize hE1 : endB base nodes s (told + 1) = E1 at *
      refine ⟨true, false, some ⟨9, 4, who ||| 2 ^ n, s, told + 1, E1⟩, ⟨9, 4, who ||| 2 ^ n, s, told + 1, E1⟩, ?_, lput_one who s told U _ _ _ _, rfl, rfl, rfl, by rw [hmn]; rfl, hmono, hge1', rfl, .inr ⟨by omega, who ||| 2 ^ n, told + 1, rfl, hE1.symm, by omega, by omega, or_lt who n hw hn, fun j hj => ?_⟩, by show told + 1 + 1 = _; omega⟩
      · rw [hr, lget_one, ← hmoreU]
        exact rstep_no rfl hbit
      · rw [Nat.testBit_or, Nat.testBit_two_pow]
        by_cases e : j = n
        · subst e
          rw [mget_mput_same]
          simp
        · have e2 : decide (n = j) = false := by simp; omega
          rw [mget_mput_other _ _ _ (by omega), e2, Bool.or_false]
          exact hm j hj
theorem lall_one (a b c d : Nat) : lall [⟨9, 4, a, b, c, d⟩] = [⟨9, 4, a, b, c, d⟩] := rfl
end Go.Proofs.Ytilfngegmdedpaa
