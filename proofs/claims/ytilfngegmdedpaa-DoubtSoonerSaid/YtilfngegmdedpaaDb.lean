/- Doubts: cells of a record in a block; the program's reckoning of a doubt's end. -/
import Derived.Test.YtilfngegmdedpaaDa
set_option linter.unusedVariables false
set_option linter.unusedSimpArgs false
namespace Go.Proofs.Ytilfngegmdedpaa
open Go.RowKit Go.Shelf Go.Proofs
attribute [local go_sem] Oper.semAt_some

/-- Block B holds just these cells. -/
def BoxC (W : World) (B : Nat) (t : TypeId) (cs : Array Value) : Prop := W.heap[B]? = some (.cells cs t)
theorem BoxC.lt {W : World} {B : Nat} {t : TypeId} {cs : Array Value} (h : BoxC W B t cs) : B < W.heap.size := (Array.getElem?_eq_some_iff.1 h).1
theorem BoxC.cell {W : World} {B : Nat} {t : TypeId} {cs : Array Value} (h : BoxC W B t cs) (i : Nat) : W.cell? ⟨B, i, none⟩ = cs[i]? := by simp [World.cell?, show W.heap[B]? = _ from h]
theorem BoxC.frozen {W : World} {B : Nat} {t : TypeId} {cs : Array Value} (h : BoxC W B t cs) (i : Nat) : W.frozen? ⟨B, i, none⟩ = false := by simp [World.frozen?, show W.heap[B]? = _ from h]
theorem BoxC.new (W : World) (t : TypeId) (cs : Array Value) : BoxC (W.alloc (.cells cs t)) W.heap.size t cs := World.alloc_heap_new W _
theorem BoxC.same {W W' : World} {B : Nat} {t : TypeId} {cs : Array Value} (h : BoxC W B t cs) (e : W'.heap[B]? = W.heap[B]?) : BoxC W' B t cs := e.trans h
theorem BoxC.kept {W W' : World} {row : Option Nat} {B : Nat} {t : TypeId} {cs : Array Value} (h : BoxC W B t cs) (hg : W.grownBy W' row) (hne : some B ≠ row) : BoxC W' B t cs := (hg.block B h.lt hne).trans h
theorem BoxC.below {W W' : World} {n B : Nat} {t : TypeId} {cs : Array Value} (h : BoxC W B t cs) (hb : Below n W W') (hB : B < n) : BoxC W' B t cs := (hb.block B hB).trans h
theorem BoxC.alloc {W : World} {B : Nat} {t : TypeId} {cs : Array Value} (h : BoxC W B t cs) (o : Obj) : BoxC (W.alloc o) B t cs := (Below.heap_alloc W o B h.lt).trans h
theorem BoxC.set {W : World} {B : Nat} {t : TypeId} {cs : Array Value} (h : BoxC W B t cs) (i : Nat) (v : Value) : BoxC (W.setCell ⟨B, i, none⟩ v) B t (cs.setIfInBounds i v) := by
  obtain ⟨hlt, hk⟩ := Array.getElem?_eq_some_iff.1 h
  show (W.heap.modify B _)[B]? = _
  rw [Array.getElem?_eq_getElem (by rw [Array.size_modify]; exact hlt), Array.getElem_modify_self, hk]
  rfl
theorem BoxC.other {W : World} {B B' i : Nat} {t : TypeId} {cs : Array Value} (h : BoxC W B t cs) (hne : B ≠ B') (v : Value) : BoxC (W.setCell ⟨B', i, none⟩ v) B t cs := (Below.heap_setCell W _ v B hne).trans h
theorem gbC (W : World) (b i : Nat) (v : Value) : W.grownBy (W.setCell ⟨b, i, none⟩ v) (some b) :=
  ⟨rfl, rfl, rfl, (KeepsWalks.setCell W _ v).size, fun k _ hk => Below.heap_setCell _ _ _ k (fun e => hk (by rw [e]))⟩
theorem gbTrans {w w1 w2 : World} {r : Option Nat} (h1 : w.grownBy w1 r) (h2 : w1.grownBy w2 r) : w.grownBy w2 r :=
  ⟨h2.os.trans h1.os, h2.tape.trans h1.tape, h2.output.trans h1.output, Nat.le_trans h1.size h2.size, fun k hk hr => (h2.block k (Nat.lt_of_lt_of_le hk h1.size) hr).trans (h1.block k hk hr)⟩
theorem gbBelow {w w' : World} (h : Below w.heap.size w w') (r : Option Nat) : w.grownBy w' r := ⟨h.os, h.tape, h.output, h.size, fun k hk _ => h.block k hk⟩
theorem gbDrew {w w' : World} {r : Option Nat} (h : w.grownBy w' r) : w.grownBy w'.drew r := ⟨h.os, h.tape, h.output, h.size, h.block⟩

/-- A doubt. -/
structure Dbt where
  node : Nat
  inc : Nat
  who : Nat
  since : Nat
  told : Nat
  til : Nat
deriving DecidableEq
def cellsD (d : Dbt) : Array Value := #[.int .i64 d.node, .int .u64 d.inc, .int .i64 1, .int .u64 d.who, .int .u64 d.since, .int .u64 d.told, .int .u64 d.til]
/-- When it is over, with so many who told it. -/
def endB (base : Nat) (n : Int) (since told : Nat) : Nat := laterB since (Fl.up (wB base n (IntKind.i64.wrap (told : Int))))
theorem wB_le (base : Nat) (hb : base < 18446744073709551616) (n told : Int) (hn : n ≤ 9223372036854775807) : wB base n told ≤ Fl.K64 := Fl.waitB_le _ _ _ (Fl.cleanB_le base hb) (kB_le n hn)

structure SD (B : Nat) (d : Dbt) (w w' : World) : Prop where
  gb : w.grownBy w' (some B)
  bx : ∃ u, BoxC w' B 55 (cellsD { d with til := u })
theorem SD.drew {B : Nat} {d : Dbt} {w w1 : World} (h : SD B d w w1) : SD B d w w1.drew := ⟨gbDrew h.gb, h.bx⟩
theorem SD.keep {B : Nat} {d : Dbt} {w w1 w2 : World} (h : SD B d w w1) (hb : Below w1.heap.size w1 w2) : SD B d w w2 := by
  obtain ⟨h1, u, h2⟩ := h
  exact ⟨gbTrans h1 (gbBelow hb _), u, h2.below hb h2.lt⟩
theorem SD.set {B : Nat} {d : Dbt} {w w1 : World} (h : SD B d w w1) (v : Nat) : SD B d w (w1.setCell ⟨B, 6, none⟩ (.int .u64 v)) := by
  obtain ⟨h1, u, h2⟩ := h
  exact ⟨gbTrans h1 (gbC _ _ _ _), v, h2.set 6 _⟩
theorem SD.since {B : Nat} {d : Dbt} {w w1 : World} (h : SD B d w w1) : w1.cell? ⟨B, 4, none⟩ = some (.int .u64 d.since) := by obtain ⟨_, u, h2⟩ := h; exact h2.cell 4
theorem SD.told {B : Nat} {d : Dbt} {w w1 : World} (h : SD B d w w1) : w1.cell? ⟨B, 5, none⟩ = some (.int .u64 d.told) := by obtain ⟨_, u, h2⟩ := h; exact h2.cell 5

/-- What a cell holds. -/
def cellOr (W : World) (B i : Nat) : Value := (W.cell? ⟨B, i, none⟩).getD undef
theorem SD.til {B : Nat} {d : Dbt} {w wx : World} (h : SD B d w wx) : wx.cell? ⟨B, 6, none⟩ = some (cellOr wx B 6) := by
  obtain ⟨_, u, h2⟩ := h
  have hc := h2.cell 6
  unfold cellOr
  rw [hc]
  rfl
theorem SD.thaw {B : Nat} {d : Dbt} {w wx : World} (h : SD B d w wx) : wx.frozen? ⟨B, 6, none⟩ = false := by
  obtain ⟨_, u, h2⟩ := h
  exact h2.frozen 6
theorem wait_keep (B : Nat) (d : Dbt) (w0 : World) (base : Nat) (hb : base < 18446744073709551616) (n told : Int) (hn : n ≤ 9223372036854775807) (w : World) (h : SD B d w0 w) :
    Calls Try.prog 33 #[.float .f64 base, .int .i64 n, .int .i64 told, .int .i64 3] w fun e w' => e = .returned (.float .f64 (wB base n told)) ∧ SD B d w0 w' ∧
      w'.cell? ⟨B, 4, none⟩ = some (.int .u64 d.since) ∧ w'.cell? ⟨B, 5, none⟩ = some (.int .u64 d.told) :=
  (wait_any base hb n told hn w).mono fun e w' ⟨h1, h2⟩ => ⟨h1, h.keep h2, (h.keep h2).since, (h.keep h2).told⟩

set_option maxHeartbeats 8000000 in
theorem dwait_any (B : Nat) (d : Dbt) (base : Nat) (hb : base < 18446744073709551616) (n : Int) (hn : n ≤ 9223372036854775807) (hs : d.since < 2 ^ 64) (w : World) (h : BoxC w B 55 (cellsD d)) :
    Calls Try.prog 20 #[.pointer (some ⟨B, 0, none⟩), .int .i64 n, .float .f64 base] w fun e w' => (∃ v, e = .returned v) ∧ w.grownBy w' (some B) ∧ BoxC w' B 55 (cellsD { d with til := endB base n d.since d.told }) := by
  have h0 : SD B d w w := ⟨World.grownBy.refl _ _, d.til, h⟩
  have c4 := h0.since
  have c5 := h0.told
  have hw := wB_le base hb n (IntKind.i64.wrap (d.told : Int)) hn
  have hu := Fl.up_le _ hw
  have H0 := held_eq d.since (Fl.up (wB base n (IntKind.i64.wrap (d.told : Int)))) hs hu
  rw [Int.add_zero] at H0
  have H := Lib.hid H0
  clear H0
  have hadd := run_add64_ext (d.since : Int) (Fl.up (wB base n (IntKind.i64.wrap (d.told : Int))) : Int) 0 (by omega) (by omega) (by omega) (by omega)
  go_enter Try.func20, Try.ntmps20
  have hst1 : ∀ wx : World, SD B d w wx → wx.cell? ⟨B, 6, none⟩ = some (cellOr wx B 6) := fun wx h => h.til
  have hst2 : ∀ wx : World, SD B d w wx → wx.frozen? ⟨B, 6, none⟩ = false := fun wx h => h.thaw
  go_wp2_with fail
  go_region_held3 (fun w' => SD B d w w' ∧ w'.cell? ⟨B, 4, none⟩ = some (.int .u64 d.since) ∧ w'.cell? ⟨B, 5, none⟩ = some (.int .u64 d.told)) (first | exact ⟨h0.drew, c4, c5⟩ | exact ⟨k1, k2, k3⟩ | exact ⟨k1.set _, (k1.set _).since, (k1.set _).told⟩ | go_keep)
    (first | (go_at_call 33; refine (wait_keep B d w base hb n _ hn _ (by first | assumption | exact h0.drew)).mono ?_; rintro e w' ⟨rfl, k1, k2, k3⟩) | (go_at_call 32; refine (ticks_any _ hw _).mono ?_; rintro e w' ⟨rfl, rfl⟩) | (go_at_call 30; refine (held_any _ _ _).mono ?_; rintro e w' ⟨rfl, rfl⟩))
  all_goals
    go_end0
    rw [H.out]
    obtain ⟨u, h2⟩ := k1.bx
    exact ⟨⟨_, rfl⟩, gbTrans k1.gb (gbC _ _ _ _), h2.set 6 _⟩
end Go.Proofs.Ytilfngegmdedpaa
