/- DoubtSooner returns true at every input, and its arguments read afterwards as they read before. -/
import Derived.Test.YtilfngegmdedpaaSb
import Derived.Test.YtilfngegmdedpaaRows
import Derived.ProofKit
import Derived.OpenShut
import Derived.ChangeOld
import Derived.Deep.Slices
import Derived.Laws.Cover2
set_option linter.unusedVariables false
set_option linter.unusedSimpArgs false
namespace Go.Proofs.Ytilfngegmdedpaa
open Go.ChangeShapes Go.WideShapes Go.ChangeAt Go.RowKit Go.Deep

theorem sooner_over (A : Option Addr) (n c : Nat) (s nd : Int) (base : Nat) (w : World) (hn : 100 < n) :
    Calls Try.prog 4 #[.slice A n c, .int .u32 s, .int .u8 nd, .float .f64 base] w fun e w' => e = .returned (.bool true) ∧ Below w.heap.size w w' := by
  have hgt : decide ((100 : Int) < (n : Int)) = true := by simp; omega
  go_enter Try.func4, Try.ntmps4
  go_wp2_with (go_at_call 5; refine (shown_any _).mono ?_; rintro e w1 ⟨rfl, hB1⟩)
  go_ret
  exact ⟨rfl, hB1⟩
theorem sooner_none (A : Option Addr) (c : Nat) (s nd : Int) (base : Nat) (w : World) :
    Calls Try.prog 4 #[.slice A 0 c, .int .u32 s, .int .u8 nd, .float .f64 base] w fun e w' => e = .returned (.bool true) ∧ Below w.heap.size w w' := by
  go_enter Try.func4, Try.ntmps4
  go_wp2_with (go_at_call 5; refine (shown_any _).mono ?_; rintro e w1 ⟨rfl, hB1⟩)
  go_ret
  exact ⟨rfl, hB1⟩
theorem sooner_any (A : Option Addr) (n c s nd base : Nat) (w : World) (hs : s < 4294967296) (hnd : nd < 256) (hb : base < 18446744073709551616) (hA : IsBytes w A n) :
    Calls Try.prog 4 #[.slice A n c, .int .u32 s, .int .u8 nd, .float .f64 base] w fun e w' => e = .returned (.bool true) ∧ Below w.heap.size w w' := by
  rcases Nat.lt_or_ge 100 n with h | h
  · exact sooner_over A n c s nd base w h
  · by_cases h0 : n = 0
    · subst h0
      exact sooner_none A c s nd base w
    · exact sooner_main A n c s nd base w h (by omega) hs hnd hb hA

theorem ownS : ownKnob Try.prog.godebug = none := by kernel_rfl
theorem laidOutS : laidOutB Try.prog = true := by kernel_rfl
theorem c5S : Try.prog.cellsOf 5 = 1 := by kernel_rfl
theorem wf_nat {k : IntKind} {n : Int} (h : (Lit.int k n).wf = true) (h0 : k.min = 0) : ∃ m : Nat, n = (m : Int) ∧ (m : Int) ≤ k.max := by
  simp only [Lit.wf, Bool.and_eq_true, decide_eq_true_eq, h0] at h
  exact ⟨n.toNat, by omega, by omega⟩
theorem bytes_of {H : Type} {enc : TypeId × Value → H} {W : World} {a : Option Addr} {len cap : Nat} {fuel : Nat} {x : DataW H × List MemPlace}
    (h : DataW.trod enc Try.prog W 0 (fun _ => true) true fuel 51 (Value.slice a len cap).cells.toList = some x) : IsBytes W a len := by
  rcases open_ints Try.underlying51 Try.underlying5 c5S h with ⟨hcs, _⟩ | ⟨y, l, c, zs, hcs, _, hl, hm, hz, _, hcell, hwz⟩
  · simp [Value.cells] at hcs
    exact .inl hcs.2.1
  · simp [Value.cells] at hcs
    obtain ⟨rfl, rfl, rfl⟩ := hcs
    by_cases h0 : len = 0
    · exact .inl h0
    · obtain ⟨b, off, spot⟩ := y
      have hzl : zs.length = cap := by simpa using hz
      have hv := hcell 0 (by omega)
      have hspot : spot = none := by simpa [Addr.add] using World.cell?_spot hv
      subst hspot
      have hadd : ∀ i, ((⟨b, off, none⟩ : Addr).add i) = ⟨b, off + i, none⟩ := fun i => by
        unfold Addr.add
        by_cases hi0 : i = 0 <;> simp [hi0]
      refine .inr ⟨b, off, rfl, ?_, fun k hk => ?_⟩
      · have := World.block_lt_of_cell? W _ hv
        rw [hadd] at this
        exact this
      · have hc := hcell k (by omega)
        rw [hadd] at hc
        have hmem : zs.getD k 0 ∈ zs := by
          rw [List.getD_eq_getElem?_getD, List.getElem?_eq_getElem (by omega)]
          exact List.getElem_mem _
        obtain ⟨m, hm1, hm2⟩ := wf_nat (hwz _ hmem) (by decide)
        rw [hm1] at hc
        have : (m : Int) ≤ 255 := hm2
        exact ⟨m, by omega, hc⟩

set_option maxRecDepth 100000 in
theorem sooner_lifted (os : Os) (started : os.Started) (H : Type) (enc : TypeId × Value → H) :
    ReturnsInHanded {} Try.checked os 4 .any (Rows.doubtSoonerSpec.pre6 enc Try.prog Try.f4 Rows.doubtSoonerRow.domain false) (Rows.doubtSoonerSpec.post enc Try.prog Try.f4 false true false false) := by
  refine returnsInHanded_of_change (C := Try.checked) ownS started (by kernel_rfl) Try.func4
    (ChangeSpec.witness6 (enc := enc) (C := Try.checked) false ⟨#[], #[.slice none 0 0, .int .u32 0, .int .u8 0, .float .f64 0], []⟩ 8 (by kernel_rfl) (by kernel_rfl) (by kernel_rfl) (by kernel_rfl)) ?_
  intro W base args ds gs before hval0 hW _ _
  have hval : ∀ (j : Nat) t v, Try.f4.params[j]? = some t → args[j]? = some v → Value.okWide Try.prog W .any base t v := hval0
  have hW' := hW
  obtain ⟨p, q, hA0, hV, rfl, _, _⟩ := hW
  have hA : DataW.TrodAll enc Try.prog W 0 (fun _ => true) true Try.f4.params.toList args.toList ds p := hA0
  rw [Try.params4] at hA hval
  obtain ⟨v0, vs0, d0, ds0, p0, q0, hargs, rfl, rfl, h0, r0⟩ := trodAll_cons hA
  obtain ⟨v1, vs1, d1, ds1, p1, q1, rfl, rfl, rfl, h1, r1⟩ := trodAll_cons r0
  obtain ⟨v2, vs2, d2, ds2, p2, q2, rfl, rfl, rfl, h2, r2⟩ := trodAll_cons r1
  obtain ⟨v3, vs3, d3, ds3, p3, q3, rfl, rfl, rfl, h3, r3⟩ := trodAll_cons r2
  obtain ⟨rfl, rfl, rfl⟩ := trodAll_nil r3
  obtain rfl : args = #[v0, v1, v2, v3] := by cases args; simp_all
  obtain ⟨rfl, rfl⟩ := trodVars_none hV
  obtain ⟨a0, len, cap, rfl⟩ := okWide_slice Try.underlying51 (hval 0 51 v0 rfl rfl)
  obtain ⟨s0, rfl, rfl, rfl, w1⟩ := open_int Try.underlying52 (hval 1 52 v1 rfl rfl) h1
  obtain ⟨n0, rfl, rfl, rfl, w2⟩ := open_int Try.underlying5 (hval 2 5 v2 rfl rfl) h2
  obtain ⟨b0, rfl, rfl, rfl, w3⟩ := open_float Try.underlying35 (hval 3 35 v3 rfl rfl) h3
  have k0 := h0
  have lt0 : ∀ x ∈ p0, x.block < W.heap.size := by obtain ⟨m, hm⟩ := k0; exact DataW.trod_lt m _ _ _ hm
  have hbytes : IsBytes W a0 len := by obtain ⟨fuel, hf⟩ := h0; exact bytes_of hf
  clear hA0 hval0
  obtain ⟨s, rfl, hs⟩ := wf_nat w1 (by decide)
  obtain ⟨nd, rfl, hnd⟩ := wf_nat w2 (by decide)
  have hs' : (s : Int) ≤ 4294967295 := hs
  have hnd' : (nd : Int) ≤ 255 := hnd
  have hb0 : b0 < 18446744073709551616 := by simpa [Lit.wf] using w3
  refine (sooner_any a0 len cap s nd b0 W (by omega) (by omega) hb0 hbytes).mono fun e W' ⟨he, bel⟩ => ?_
  subst he
  exact ⟨_, rfl, _, _, _, [], _, [], hW', trodAll_mk1 (shut_bool Try.underlying4 _), trodAll_cons_mk (Below.trod laidOutS (by kernel_rfl) (of_decide_eq_true (by kernel_rfl)) k0 bel lt0) (trodAll_cons_mk (shut_int Try.underlying52 w1) (trodAll_cons_mk (shut_int Try.underlying5 w2) (trodAll_cons_mk (shut_float Try.underlying35 w3) trodAll_mk0))), rfl, bel.frame _, fun h => by cases h⟩

theorem doubtSooner : Rows.DoubtSoonerSaid :=
  OpenClaim.holds_of_wide 4 Try.f4 rfl rfl rfl rfl rfl rfl rfl ⟨rfl, rfl, rfl, rfl, rfl⟩ rfl rfl rfl rfl rfl (by kernel_rfl) Try.func4 (by kernel_rfl)
    (of_decide_eq_true (by kernel_rfl)) (by unfold Func.isWrapper; first | (rw [if_pos (by decide +kernel)]; kernel_rfl) | (rw [if_neg (by decide +kernel)]; exact ⟨rfl, rfl⟩))
    (fun os started H enc _ => sooner_lifted os started H enc)
#print axioms doubtSooner
end Go.Proofs.Ytilfngegmdedpaa
