/- Doubts of the program: its object, what it may turn; Drop. -/
import Derived.Test.YtilfngegmdedpaaDl
import Derived.Test.YtilfngegmdedpaaIr
import Derived.Deep.WholeRow
import Derived.Deep.MidRow
set_option linter.unusedVariables false
set_option linter.unusedSimpArgs false
namespace Go.Proofs.Ytilfngegmdedpaa
open Go.RowKit Go.Shelf Go.Proofs
attribute [local go_sem] Oper.semAt_some

/-- Of the old blocks only those of S may have turned. -/
structure Fr (S : Nat → Prop) (w w' : World) : Prop where
  os : w'.os = w.os
  tape : w'.tape = w.tape
  output : w'.output = w.output
  size : w.heap.size ≤ w'.heap.size
  block : ∀ k, k < w.heap.size → ¬ S k → w'.heap[k]? = w.heap[k]?
theorem Fr.refl (S : Nat → Prop) (w : World) : Fr S w w := ⟨rfl, rfl, rfl, Nat.le_refl _, fun _ _ _ => rfl⟩
theorem Fr.trans {S S' : Nat → Prop} {a b c : World} (h : Fr S a b) (k : Fr S' b c) (hS : ∀ i, i < a.heap.size → S' i → S i) : Fr S a c :=
  ⟨k.os.trans h.os, k.tape.trans h.tape, k.output.trans h.output, Nat.le_trans h.size k.size, fun i hi hn => (k.block i (Nat.lt_of_lt_of_le hi h.size) (fun hs => hn (hS i hi hs))).trans (h.block i hi hn)⟩
theorem Fr.mono {S S' : Nat → Prop} {a b : World} (h : Fr S a b) (hS : ∀ i, i < a.heap.size → S i → S' i) : Fr S' a b := ⟨h.os, h.tape, h.output, h.size, fun i hi hn => h.block i hi (fun hs => hn (hS i hi hs))⟩
theorem Fr.of_below {n : Nat} {w w' : World} (h : Below n w w') {S : Nat → Prop} (hS : ∀ i, i < w.heap.size → n ≤ i → S i) : Fr S w w' :=
  ⟨h.os, h.tape, h.output, h.size, fun k hk hn => h.block k (Nat.lt_of_not_le (fun hle => hn (hS k hk hle)))⟩
theorem Fr.below {S : Nat → Prop} {w w' : World} (h : Fr S w w') {n : Nat} (hn : n ≤ w.heap.size) (hS : ∀ i, i < n → ¬ S i) : Below n w w' :=
  ⟨h.os, h.tape, h.output, h.size, fun k hk => h.block k (Nat.lt_of_lt_of_le hk hn) (hS k hk)⟩
theorem Fr.of_grown {w w' : World} {r : Option Nat} (h : w.grownBy w' r) {S : Nat → Prop} (hS : ∀ k, r = some k → S k) : Fr S w w' :=
  ⟨h.os, h.tape, h.output, h.size, fun k hk hn => h.block k hk (fun e => hn (hS k e.symm))⟩
theorem Fr.boxC {S : Nat → Prop} {w w' : World} (h : Fr S w w') {B : Nat} {t : TypeId} {cs : Array Value} (hb : BoxC w B t cs) (hn : ¬ S B) : BoxC w' B t cs := hb.same (h.block B hb.lt hn)
theorem Fr.putObj (w : World) (b : Nat) (o : Obj) {S : Nat → Prop} (hS : S b) : Fr S w (w.putObj b o) := ⟨rfl, rfl, rfl, by simp [World.putObj], fun k _ hn => World.putObj_heap_other (fun e => hn (e ▸ hS))⟩
theorem Fr.setCell (w : World) (p : Addr) (v : Value) {S : Nat → Prop} (hS : S p.block) : Fr S w (w.setCell p v) := ⟨rfl, rfl, rfl, (KeepsWalks.setCell w p v).size, fun k _ hn => Below.heap_setCell w p v k (fun e => hn (e ▸ hS))⟩

/-- What a doubt may hold. -/
def OkD (d : Dbt) : Prop := d.node < 64 ∧ d.inc < 2 ^ 64 ∧ d.who < 2 ^ 64 ∧ d.since < 2 ^ 64 ∧ d.told < 2 ^ 64 ∧ d.til < 2 ^ 64

/-- The program's doubts in block Dd, their map in block r. -/
structure DM (w : World) (Dd : Nat) (r : Option Nat) (l : List Dbt) : Prop where
  box : BoxC w Dd 27 #[.map r]
  map : (r = none ∧ l = []) ∨ ∃ mb, r = some mb ∧ IntMap w mb (l.map ent)
  uniq : Uniq l
  ok : ∀ d ∈ l, OkD d
def SDM (Dd : Nat) (r : Option Nat) (k : Nat) : Prop := k = Dd ∨ some k = r
theorem DM.lt {w : World} {Dd : Nat} {r : Option Nat} {l : List Dbt} (h : DM w Dd r l) : ∀ k, SDM Dd r k → k < w.heap.size := by
  rintro k (rfl | hk)
  · exact h.box.lt
  · rcases h.map with ⟨rfl, _⟩ | ⟨mb, rfl, hm⟩
    · simp at hk
    · cases hk; exact hm.lt
theorem DM.fr {w w' : World} {Dd : Nat} {r : Option Nat} {l : List Dbt} (h : DM w Dd r l) {S : Nat → Prop} (hf : Fr S w w') (hS : ∀ k, SDM Dd r k → ¬ S k) : DM w' Dd r l :=
  ⟨hf.boxC h.box (hS _ (.inl rfl)), by
    rcases h.map with h1 | ⟨mb, h1, h2⟩
    · exact .inl h1
    · exact .inr ⟨mb, h1, h2.same (hf.block mb h2.lt (hS _ (.inr h1.symm)))⟩, h.uniq, h.ok⟩
theorem DM.map_some {w : World} {Dd mb : Nat} {l : List Dbt} (h : DM w Dd (some mb) l) : IntMap w mb (l.map ent) := by
  rcases h.map with ⟨h1, _⟩ | ⟨mb', h1, h2⟩
  · simp at h1
  · cases h1; exact h2
theorem DM.below {w w' : World} {Dd : Nat} {r : Option Nat} {l : List Dbt} (h : DM w Dd r l) {n : Nat} (hb : Below n w w') (hn : w.heap.size ≤ n) : DM w' Dd r l :=
  h.fr (S := fun k => n ≤ k) (Fr.of_below hb fun _ _ hk => hk) fun k hk hc => by have := h.lt k hk; omega
theorem box_not_map {w : World} {B b : Nat} {t : TypeId} {cs : Array Value} {m : List (Int × Value)} (h : BoxC w B t cs) (hm : IntMap w b m) : B ≠ b := by
  rintro rfl
  obtain ⟨es, clock, hb, _⟩ := hm
  have := (show w.heap[B]? = _ from h).symm.trans hb
  simp at this

theorem zeroD : ∀ w : World, (zeroValue 55).run Try.prog w = .ok (.agg #[.int .i64 0, .int .u64 0, .int .i64 0, .int .u64 0, .int .u64 0, .int .u64 0, .int .u64 0]) w := fun w => by kernel_rfl

set_option maxRecDepth 100000 in
set_option maxHeartbeats 2000000 in
theorem drop_any (w : World) (Dd : Nat) (r : Option Nat) (l : List Dbt) (h : DM w Dd r l) (n : Int) :
    Calls Try.prog 8 #[.pointer (some ⟨Dd, 0, none⟩), .int .i64 n] w fun e w' => e = .returned (.bool (lget l n).isSome) ∧ DM w' Dd r (ldel l n) ∧ Fr (fun k => some k = r) w w' := by
  have hc := h.box.cell 0
  have hlt := h.box.lt
  simp at hc
  rcases h.map with ⟨rfl, rfl⟩ | ⟨mb, rfl, hm⟩
  · have hlk := run_lookup_nil (P := Try.prog) Try.underlying25 Try.underlying3 (zeroD w) n true
    have hdl := fun w => run_delete_nil (P := Try.prog) Try.underlying25 Try.underlying3 w n
    simp at hlk
    go_enter Try.func8, Try.ntmps8
    go_wp2
    go_ret
    exact ⟨rfl, h.below (Below.refl _ w |>.alloc (Nat.le_refl _) _) (Nat.le_refl _), Fr.of_below ((Below.refl _ w).alloc (Nat.le_refl _) _) (fun i h1 h2 => absurd h1 (by omega))⟩
  · have hlk := run_lookup (P := Try.prog) Try.underlying25 Try.underlying3 (zeroD w) hm n true
    rw [mget_ent] at hlk
    have hml := hm.lt
    have hne := box_not_map h.box hm
    have fin : ∀ (c : Array Value) (o : Obj), IntMap ((w.alloc (.cells c 55)).putObj mb o) mb (mdel (l.map ent) n) →
        DM ((w.alloc (.cells c 55)).putObj mb o) Dd (some mb) (ldel l n) ∧ Fr (fun k => some k = some mb) w ((w.alloc (.cells c 55)).putObj mb o) := by
      intro c o hm2
      have f1 : Fr (fun k => some k = some mb) w (w.alloc (.cells c 55)) := Fr.of_below ((Below.refl _ w).alloc (Nat.le_refl _) _) (fun i h1 h2 => absurd h1 (by omega))
      have f2 : Fr (fun k => some k = some mb) w ((w.alloc (.cells c 55)).putObj mb o) := f1.trans (Fr.putObj _ mb o (S := fun k => some k = some mb) rfl) (fun _ _ h => h)
      refine ⟨⟨f2.boxC h.box (fun e => hne (by cases e; rfl)), .inr ⟨mb, rfl, by rw [← mdel_ent]; exact hm2⟩, by rw [ldel_lnot l n h.uniq]; exact uniq_lnot l n h.uniq, fun d hd => h.ok d (by rw [ldel_lnot l n h.uniq] at hd; exact (List.mem_filter.1 hd).1)⟩, f2⟩
    cases hg : lget l n with
    | none =>
      rw [hg] at hlk
      simp at hlk
      obtain ⟨o, ho, hmo⟩ := run_delete (P := Try.prog) (T := 25) Try.underlying25 Try.underlying3 (hm.alloc (.cells #[.int .i64 0, .int .u64 0, .int .i64 0, .int .u64 0, .int .u64 0, .int .u64 0, .int .u64 0] 55)) n 0
      go_enter Try.func8, Try.ntmps8
      go_wp2
      go_ret
      exact ⟨rfl, fin _ o hmo⟩
    | some d =>
      rw [hg] at hlk
      simp [cellsD] at hlk
      obtain ⟨o, ho, hmo⟩ := run_delete (P := Try.prog) (T := 25) Try.underlying25 Try.underlying3 (hm.alloc (.cells (cellsD d) 55)) n 0
      unfold cellsD at ho
      go_enter Try.func8, Try.ntmps8
      go_wp2
      go_ret
      exact ⟨rfl, fin _ o hmo⟩
end Go.Proofs.Ytilfngegmdedpaa
