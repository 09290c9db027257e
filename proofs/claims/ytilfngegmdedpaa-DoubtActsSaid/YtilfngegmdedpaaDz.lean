/- DoubtActs returns true at every input, and its argument reads afterwards as it read before. -/
import Derived.Test.YtilfngegmdedpaaDy
import Derived.Test.YtilfngegmdedpaaRows
import Derived.ProofKit
import Derived.OpenShut
import Derived.ChangeOld
import Derived.Deep.Slices
import Derived.Deep.Fields
import Derived.Laws.Cover2
set_option linter.unusedVariables false
set_option linter.unusedSimpArgs false
namespace Go.Proofs.Ytilfngegmdedpaa
open Go.ChangeShapes Go.WideShapes Go.ChangeAt Go.RowKit Go.Deep

theorem acts_over (A : Option Addr) (n c : Nat) (w : World) (hn : 150 < n) :
    Calls Try.prog 3 #[.slice A n c] w fun e w' => e = .returned (.bool true) ∧ Below w.heap.size w w' := by
  have hgt : decide ((150 : Int) < (n : Int)) = true := by simp; omega
  go_enter Try.func3, Try.ntmps3
  go_wp2_with (go_at_call 5; refine (shown_any _).mono ?_; rintro e w1 ⟨rfl, hB1⟩)
  go_ret
  exact ⟨rfl, hB1⟩
theorem acts_any (A : Option Addr) (n c : Nat) (w : World) (hA : IsActs w A n) :
    Calls Try.prog 3 #[.slice A n c] w fun e w' => e = .returned (.bool true) ∧ Below w.heap.size w w' := by
  rcases Nat.lt_or_ge 150 n with h | h
  · exact acts_over A n c w h
  · exact acts_main A n c w h hA

theorem own : ownKnob Try.prog.godebug = none := by kernel_rfl
theorem laidOut : laidOutB Try.prog = true := by kernel_rfl

theorem trod_fl {H : Type} {enc : TypeId × Value → H} {P : Program} {w : World} {base : Nat} {spare : Nat → Bool} {held : Bool} {t : TypeId} {k : FloatKind} {fuel : Nat} {cs : List Value} {x : DataW H × List MemPlace} (ht : P.underlying t = some (.float k)) (h : DataW.trod enc P w base spare held fuel t cs = some x) : ∃ b, cs = [.float k b] ∧ (Lit.float k b).wf = true := by
  cases fuel with
  | zero => simp [DataW.trod] at h
  | succ n =>
    unfold DataW.trod at h
    rw [ht] at h
    split at h <;> simp_all
theorem wf_u64 {n : Int} (h : (Lit.int .u64 n).wf = true) : ∃ m : Nat, n = (m : Int) ∧ m < 2 ^ 64 := by
  have : 0 ≤ n ∧ n < 18446744073709551616 := by
    simp [Lit.wf, IntKind.min, IntKind.max, IntKind.signed, IntKind.bits] at h
    omega
  exact ⟨n.toNat, by omega, by omega⟩
theorem wf_i64 {n : Int} (h : (Lit.int .i64 n).wf = true) : n ≤ 9223372036854775807 := by
  simp [Lit.wf, IntKind.min, IntKind.max, IntKind.signed, IntKind.bits] at h
  omega
theorem c3 : Try.prog.cellsOf 3 = 1 := by kernel_rfl
theorem c34 : Try.prog.cellsOf 34 = 3 := by kernel_rfl
theorem c32 : Try.prog.cellsOf 32 = 1 := by kernel_rfl
theorem c35 : Try.prog.cellsOf 35 = 1 := by kernel_rfl
theorem c37 : Try.prog.cellsOf 37 = 8 := by kernel_rfl

theorem actAt_of {H : Type} {enc : TypeId × Value → H} {W : World} {b o fuel : Nat} {cs : List Value} {x : DataW H × List MemPlace} (hl : cs.length = 8) (hcell : ∀ j, j < 8 → W.cell? ⟨b, o + j, none⟩ = cs[j]?)
    (h : DataW.trod enc Try.prog W 0 (fun _ => true) true fuel 37 cs = some x) : ActAt W b o := by
  match cs, hl with
  | [v0, v1, v2, v3, v4, v5, v6, v7], _ =>
    obtain ⟨xs, n, _, _, _, hlen, hf⟩ := DataW.trod_struct Try.underlying37 h
    match xs, hlen with
    | [x0, x1, x2, x3, x4, x5], _ =>
      have g0 := hf 0 _ rfl
      have g1 := hf 1 _ rfl
      have g2 := hf 2 _ rfl
      have g3 := hf 3 _ rfl
      have g4 := hf 4 _ rfl
      have g5 := hf 5 _ rfl
      simp [c3, c34, c32, c35] at g0 g1 g2 g3 g4 g5
      obtain ⟨a0, e0, _, w0⟩ := DataW.trod_int Try.underlying3 g0
      obtain ⟨a1, e1, _, w1⟩ := DataW.trod_int Try.underlying3 g1
      obtain ⟨a2, e2, _, w2⟩ := DataW.trod_int Try.underlying3 g2
      obtain ⟨a4, e4, _, w4⟩ := DataW.trod_int Try.underlying32 g4
      obtain ⟨a5, e5, w5⟩ := trod_fl Try.underlying35 g5
      obtain ⟨ys, m, _, _, _, hlen3, hf3⟩ := DataW.trod_struct Try.underlying34 g3
      match ys, hlen3 with
      | [y0, y1, y2], _ =>
        have k0 := hf3 0 _ rfl
        have k1 := hf3 1 _ rfl
        have k2 := hf3 2 _ rfl
        simp [c3, c32] at k0 k1 k2
        obtain ⟨b0, f0, _, z0⟩ := DataW.trod_int Try.underlying3 k0
        obtain ⟨b1, f1, _, z1⟩ := DataW.trod_int Try.underlying32 k1
        obtain ⟨b2, f2, _, z2⟩ := DataW.trod_int Try.underlying3 k2
        simp at e0 e1 e2 e4 e5 f0 f1 f2
        subst e0 e1 e2 e4 e5 f0 f1 f2
        obtain ⟨inc, rfl, hinc⟩ := wf_u64 z1
        obtain ⟨now, rfl, hnow⟩ := wf_u64 w4
        have hb : a5 < 2 ^ 64 := by simpa [Lit.wf] using w5
        refine ⟨a0, a1, a2, b0, b2, inc, now, a5, wf_i64 w2, hinc, hnow, by simpa using hb, ?_⟩
        have q := fun j hj => hcell j hj
        exact ⟨q 0 (by omega), q 1 (by omega), q 2 (by omega), q 3 (by omega), q 4 (by omega), q 5 (by omega), q 6 (by omega), q 7 (by omega)⟩
theorem acts_of {H : Type} {enc : TypeId × Value → H} {W : World} {a : Option Addr} {len cap : Nat} {fuel : Nat} {x : DataW H × List MemPlace}
    (h : DataW.trod enc Try.prog W 0 (fun _ => true) true fuel 22 (Value.slice a len cap).cells.toList = some x) : IsActs W a len := by
  rcases open_slice Try.underlying22 h with ⟨hcs, _⟩ | ⟨y, l, c, m, n, D, Pl, hcs, hb, hl, hm, hmm, _, hi⟩
  · simp [Value.cells] at hcs
    exact .inl hcs.2.1
  · simp [Value.cells] at hcs
    obtain ⟨rfl, rfl, rfl⟩ := hcs
    by_cases h0 : len = 0
    · exact .inl h0
    · obtain ⟨b, off, spot⟩ := y
      rw [c37] at hi
      have hmc : m = cap := by rw [hmm]; rfl
      obtain ⟨cs0, hc0, _⟩ := hi 0 (by omega)
      obtain ⟨_, hl0, hcell0⟩ := World.cells?_some hc0
      obtain ⟨v, hv⟩ : ∃ v, W.cell? (((⟨b, off, spot⟩ : Addr).add (0 * 8)).add 0) = some v := ⟨cs0[0]'(by omega), by rw [hcell0 0 (by omega), List.getElem?_eq_getElem (by omega)]⟩
      have hspot : spot = none := by simpa [Addr.add] using World.cell?_spot hv
      subst hspot
      have hadd : ∀ i j, ((⟨b, off, none⟩ : Addr).add i).add j = ⟨b, off + i + j, none⟩ := fun i j => by
        unfold Addr.add
        by_cases hi0 : i = 0 <;> by_cases hj0 : j = 0 <;> simp [hi0, hj0]
      refine .inr ⟨b, off, rfl, ?_, fun k hk => ?_⟩
      · have := World.block_lt_of_cell? W _ hv
        rw [hadd] at this
        exact this
      · obtain ⟨cs', hc, ht⟩ := hi k (by omega)
        obtain ⟨_, hl', hcell⟩ := World.cells?_some hc
        exact actAt_of hl' (fun j hj => by rw [← hadd]; exact hcell j hj) ht

set_option maxRecDepth 100000 in
theorem acts_lifted (os : Os) (started : os.Started) (H : Type) (enc : TypeId × Value → H) :
    ReturnsInHanded {} Try.checked os 3 .any (Rows.doubtActsSpec.pre6 enc Try.prog Try.f3 Rows.doubtActsRow.domain false) (Rows.doubtActsSpec.post enc Try.prog Try.f3 false true false false) := by
  refine returnsInHanded_of_change (C := Try.checked) own started (by kernel_rfl) Try.func3
    (ChangeSpec.witness6 (enc := enc) (C := Try.checked) false ⟨#[], #[.slice none 0 0], []⟩ 8 (by kernel_rfl) (by kernel_rfl) (by kernel_rfl) (by kernel_rfl)) ?_
  intro W base args ds gs before hval0 hW _ _
  have hval : ∀ (j : Nat) t v, Try.f3.params[j]? = some t → args[j]? = some v → Value.okWide Try.prog W .any base t v := hval0
  have hW' := hW
  obtain ⟨p, q, hA0, hV, rfl, _, _⟩ := hW
  have hA : DataW.TrodAll enc Try.prog W 0 (fun _ => true) true Try.f3.params.toList args.toList ds p := hA0
  rw [Try.params3] at hA hval
  obtain ⟨v0, d0, rfl, rfl, h0⟩ := trodAll_one hA
  obtain ⟨rfl, rfl⟩ := trodVars_none hV
  obtain ⟨a0, len, cap, rfl⟩ := okWide_slice Try.underlying22 (hval 0 22 v0 rfl rfl)
  have k0 := h0
  have lt0 : ∀ x ∈ p, x.block < W.heap.size := by obtain ⟨m, hm⟩ := k0; exact DataW.trod_lt m _ _ _ hm
  have hacts : IsActs W a0 len := by obtain ⟨fuel, hf⟩ := h0; exact acts_of hf
  clear hA0 hval0
  refine (acts_any a0 len cap W hacts).mono fun e W' ⟨he, bel⟩ => ?_
  subst he
  exact ⟨_, rfl, _, _, _, [], _, [], hW', trodAll_mk1 (shut_bool Try.underlying4 _), trodAll_mk1 (Below.trod laidOut (by kernel_rfl) (of_decide_eq_true (by kernel_rfl)) k0 bel lt0), rfl, bel.frame _, fun h => by cases h⟩

theorem doubtActs : Rows.DoubtActsSaid :=
  OpenClaim.holds_of_wide 3 Try.f3 rfl rfl rfl rfl rfl rfl rfl ⟨rfl, rfl, rfl, rfl, rfl⟩ rfl rfl rfl rfl rfl (by kernel_rfl) Try.func3 (by kernel_rfl)
    (of_decide_eq_true (by kernel_rfl)) (by unfold Func.isWrapper; first | (rw [if_pos (by decide +kernel)]; kernel_rfl) | (rw [if_neg (by decide +kernel)]; exact ⟨rfl, rfl⟩))
    (fun os started H enc _ => acts_lifted os started H enc)
#print axioms doubtActs
end Go.Proofs.Ytilfngegmdedpaa
