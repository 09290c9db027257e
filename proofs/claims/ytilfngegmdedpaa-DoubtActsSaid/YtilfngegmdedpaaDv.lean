/- Doubts of the document: Raise, where it may be. -/
import Derived.Test.YtilfngegmdedpaaDu
import Derived.Deep.DrawnRows
set_option linter.unusedVariables false
set_option linter.unusedSimpArgs false
namespace Go.Proofs.Ytilfngegmdedpaa
open Go.RowKit Go.Shelf Go.Proofs
attribute [local go_sem] Oper.semAt_some
attribute [local go_sem ↓] Go.wp_at_zero Go.wp_at_succ

/-- The load of the row that is appended to: it is branched over (its cell is written in the end). -/
def ldRow : Oper := { dst := some 105, op := .load 29 (.tmp 104), type := 29, pos := "ref.go:67", after := #[{ on := 3, ground := .data }], guard := none }
attribute [local go_sem] ldRow
set_option maxRecDepth 100000 in
set_option maxHeartbeats 16000000 in
theorem rraise_ok (w : World) (Rr : Nat) (v : Value) (l : List Dbt) (h : RM w Rr v l) (node inc n now : Nat) (nodes : Int) (base : Nat) (hbase : base < 18446744073709551616) (hnodes : nodes ≤ 9223372036854775807) (hnow : now < 2 ^ 64) (hinc : inc < 2 ^ 64) (hok : okRaise (node : Int) 1 (n : Int) = true) :
    Calls Try.prog 7 #[.pointer (some ⟨Rr, 0, none⟩), .agg #[.int .i64 node, .int .u64 inc, .int .i64 1], .int .i64 n, .int .u64 now, .int .i64 nodes, .float .f64 base] w fun e w' =>
      e = .returned (.tuple #[.bool (rstep (lget l node) node inc n now base nodes).2.1, .int .i64 (rstep (lget l node) node inc n now base nodes).2.2]) ∧ ∃ v' l', RM w' Rr v' l' ∧ (∀ m, lget l' m = lget (lstep l (rstep (lget l node) node inc n now base nodes).1) m) ∧ (v' = v ∨ ∀ j, v'.ownBlock = some j → w.heap.size ≤ j) ∧ Fr (SRM Rr v) w w' := by
  have hB0 : Below w.heap.size w (w.alloc (.cells #[.int .i64 node, .int .u64 inc, .int .i64 1] 34)) := (Below.refl _ w).alloc (Nat.le_refl _) _
  have bU := BoxC.new w 34 #[.int .i64 node, .int .u64 inc, .int .i64 1]
  have hs0 : (w.alloc (.cells #[.int .i64 node, .int .u64 inc, .int .i64 1] 34)).heap.size = w.heap.size + 1 := by simp
  simp only [okRaise, Bool.and_eq_true, decide_eq_true_eq] at hok
  obtain ⟨⟨⟨hm, -⟩, hn0⟩, hn1⟩ := hok
  have hm' := Lib.hid hm
  have hnn : n < 64 := by omega
  have hnode := may_node hm
  obtain ⟨q, hq⟩ : ∃ q, Hid (q = 2 ^ n) := ⟨_, Lib.hid rfl⟩
  have hlen := h.len
  obtain ⟨A, c, rfl⟩ := rowForm h.row
  have hall : ∀ w1 : World, Below (w.alloc (.cells #[.int .i64 node, .int .u64 inc, .int .i64 1] 34)).heap.size (w.alloc (.cells #[.int .i64 node, .int .u64 inc, .int .i64 1] 34)) w1 →
      w1.cell? ⟨w.heap.size, 0, none⟩ = some (.int .i64 node) ∧ w1.cell? ⟨w.heap.size, 1, none⟩ = some (.int .u64 inc) ∧ w1.cell? ⟨w.heap.size, 2, none⟩ = some (.int .i64 1) ∧ w1.cell? ⟨Rr, 0, none⟩ = some (.slice A l.length c) ∧ RM w1 Rr (.slice A l.length c) l ∧ Below w.heap.size w w1 ∧ w.heap.size + 1 ≤ w1.heap.size ∧ Rr < w.heap.size :=
    fun w1 hb => by
      have hu := bU.below hb (by rw [hs0]; omega)
      have hD : RM w1 Rr (.slice A l.length c) l := (h.below hB0 (Nat.le_refl _)).below hb (Nat.le_refl _)
      have := hb.size
      exact ⟨hu.cell 0, hu.cell 1, hu.cell 2, hD.box.cell 0, hD, hB0.trans (hb.mono (by omega)), by omega, h.box.lt⟩
  clear hm
  go_enter Try.func7, Try.ntmps7
  go_wp2_with (first | (go_at_call 21; refine (rmay_any node inc 1 _).mono ?_; rw [hm'.out]; rintro e w1 ⟨rfl, hB1⟩; obtain ⟨u0, u1, u2, dc, hRM1, hBw, hsz1, hRlt⟩ := hall _ hB1; clear hall bU hB0 hs0 hB1) | fail)
  have hkeep : ∀ wx, Below w1.heap.size w1 wx → wx.cell? ⟨w.heap.size, 0, none⟩ = some (.int .i64 node) ∧ wx.cell? ⟨w.heap.size, 1, none⟩ = some (.int .u64 inc) ∧ wx.cell? ⟨w.heap.size, 2, none⟩ = some (.int .i64 1) ∧ RM wx Rr (.slice A l.length c) l ∧ Below w.heap.size w wx ∧ w1.heap.size ≤ wx.heap.size := fun wx hb => by
    have e : ∀ i, wx.cell? ⟨w.heap.size, i, none⟩ = w1.cell? ⟨w.heap.size, i, none⟩ := fun i => hb.cell (p := ⟨w.heap.size, i, none⟩) (by show w.heap.size < _; omega)
    exact ⟨(e 0).trans u0, (e 1).trans u1, (e 2).trans u2, hRM1.below hb (Nat.le_refl _), hBw.trans (hb.mono (by omega)), hb.size⟩
  have HU := Lib.hid h.uniq
  have HOK := Lib.hid h.ok
  clear u0 u1 u2 dc hRM1
  go_loopw [14, 15] (fun i x wr => ∃ k : Nat, k ≤ l.length ∧ i = .int .i64 k ∧ NoneYet l node inc k ∧ Below w1.heap.size w1 wr) (fun i _ _ => l.length - (intOf i).toNat)
  case atStart => exact ⟨0, Nat.zero_le _, rfl, fun j d hj => absurd hj (by omega), Below.refl _ _⟩
  case round =>
    obtain ⟨k, hk, rfl, hN, hB⟩ := hrel
    obtain ⟨u0, u1, u2, hRM, hBx, hszx⟩ := hkeep _ hB
    have dc := hRM.box.cell 0
    simp at dc
    by_cases hkl : k < l.length
    · obtain ⟨d, hd⟩ : ∃ d, l[k]? = some d := ⟨l[k], List.getElem?_eq_getElem hkl⟩
      obtain ⟨a, rfl, hcells⟩ := rowAt hRM.row (by omega)
      obtain ⟨c0, c1, c2, c3, c4, c5, c6⟩ := recAt hcells hd
      have hklt : (k : Int) < (l.length : Int) := by omega
      have hkl0 : (0 : Int) ≤ (k : Int) := by omega
      have hBa : ∀ o, Below w1.heap.size w1 (wr.alloc o) := fun o => hB.alloc hszx o
      have kU : ∀ o i, (wr.alloc o).cell? ⟨w.heap.size, i, none⟩ = wr.cell? ⟨w.heap.size, i, none⟩ := fun o i => ((Below.refl _ wr).alloc (Nat.le_refl _) o).cell (p := ⟨w.heap.size, i, none⟩) (by show w.heap.size < _; omega)
      by_cases hdn : d.node = node
      · subst hdn
        have hlg := lget_at HU.out hd
        have hd' := hd
        clear hkeep hd hcells
        rcases Nat.lt_trichotomy inc d.inc with hlt | heq | hgt
        · have hc1 : (decide (inc < d.inc)) = true := by simp [hlt]
          have hc2 : ((d.node : Int) != (d.node : Int)) = false := by simp
          have Hfin := Lib.hid (show rstep (lget l (d.node : Int)) d.node inc n now base nodes = (none, false, 70) by rw [hlg]; exact if_pos hlt)
          clear hlg
          go_wp2
          go_ret2
          rw [Hfin.out]
          exact ⟨rfl, _, l, hRM.below ((Below.refl _ wr).alloc (Nat.le_refl _) _) (Nat.le_refl _), fun m => rfl, .inl rfl, Fr.of_below (hBx.alloc (by omega) _) (fun i h1 h2 => absurd h1 (by omega))⟩
        · subst heq
          have hc1 : (decide (d.inc < d.inc)) = false := by simp
          have hc2 : ((d.node : Int) != (d.node : Int)) = false := by simp
          have hc3 : ((d.inc : Int) == (d.inc : Int)) = true := by simp
          obtain ⟨hk1, hk2, hk3, hk4, hk5, hk6⟩ := HOK.out d (List.mem_of_getElem? hd')
          cases hbit : d.who.testBit n with
          | true =>
            have Hfin := Lib.hid (show rstep (lget l (d.node : Int)) d.node d.inc n now base nodes = (none, false, 0) by rw [hlg]; exact (if_neg (Nat.lt_irrefl _)).trans ((if_pos rfl).trans (if_pos hbit)))
            have hbit' := Lib.hid hbit
            clear hlg hbit
            go_wp2_with (go_at_call 22; refine (rhas_any d.who n hk3 hnn _).mono ?_; rw [hbit'.out]; rintro e w9 ⟨rfl, rfl⟩)
            go_ret2
            rw [Hfin.out]
            exact ⟨rfl, _, l, hRM.below ((Below.refl _ wr).alloc (Nat.le_refl _) _) (Nat.le_refl _), fun m => rfl, .inl rfl, Fr.of_below (hBx.alloc (by omega) _) (fun i h1 h2 => absurd h1 (by omega))⟩
          | false =>
            have Hfin := Lib.hid (show rstep (lget l (d.node : Int)) d.node d.inc n now base nodes = (some (more d n base nodes), true, 0) by rw [hlg]; exact (if_neg (Nat.lt_irrefl _)).trans ((if_pos rfl).trans (if_neg (by simp [hbit]))))
            have hbit' := Lib.hid hbit
            have htw : IntKind.u64.wrap ((d.told : Int) + 1) = (((d.told + 1) % 2 ^ 64 : Nat) : Int) := by rw [IntKind.wrap_u64]; omega
            generalize htd : (d.told + 1) % 2 ^ 64 = td at htw
            have HTD := Lib.hid htd
            generalize hwd : d.who ||| 2 ^ n = wd
            have HWD := Lib.hid hwd
            have hwith := rwith_any d.who n hk3 hnn
            rw [hwd] at hwith
            have hw := wB_le base hbase nodes (IntKind.i64.wrap (td : Int)) hnodes
            clear hlg hbit htd hwd
            go_wp2_with (first | (go_at_call 22; refine (rhas_any d.who n hk3 hnn _).mono ?_; rw [hbit'.out]; rintro e w9 ⟨rfl, rfl⟩) | (go_at_call 23; refine (hwith _).mono ?_; rintro e w9 ⟨rfl, rfl⟩))
            generalize hE : laterB d.since (Fl.up (wB base nodes (IntKind.i64.wrap (td : Int)))) = E
            have HE := Lib.hid hE
            have hlater := later_any d.since (Fl.up (wB base nodes (IntKind.i64.wrap (td : Int)))) hk4
            rw [hE] at hlater
            have bX := BoxC.new wr 62 #[.int .i64 d.node, .int .u64 d.inc, .int .i64 1, .int .u64 wd, .int .u64 d.since, .int .u64 td, .int .u64 d.til]
            clear hE
            go_region_held3 (fun w' => w'.cell? ⟨wr.heap.size, 4, none⟩ = some (.int .u64 d.since) ∧ w'.cell? ⟨wr.heap.size, 5, none⟩ = some (.int .u64 td)) (first | exact ⟨bX.cell 4, bX.cell 5⟩ | go_keep)
              (first | (go_at_call 26; refine (rwait_any base hbase nodes _ hnodes _).mono ?_; rintro e w' ⟨rfl, rfl⟩) | (go_at_call 25; refine (rticks_any _ hw _).mono ?_; rintro e w' ⟨rfl, rfl⟩) | (go_at_call 24; refine (hlater _).mono ?_; rintro e w' ⟨rfl, rfl⟩))
            all_goals
              go_wp2_with fail
              have bX2 := BoxC.new wr 62 #[.int .i64 d.node, .int .u64 d.inc, .int .i64 1, .int .u64 wd, .int .u64 d.since, .int .u64 td, .int .u64 E]
              have hRM2 := hRM.below ((Below.refl _ wr).alloc (Nat.le_refl _) (.cells #[.int .i64 d.node, .int .u64 d.inc, .int .i64 1, .int .u64 wd, .int .u64 d.since, .int .u64 td, .int .u64 E] 62)).drew (Nat.le_refl _)
              have hBW := (hBx.alloc (by omega) (.cells #[.int .i64 d.node, .int .u64 d.inc, .int .i64 1, .int .u64 wd, .int .u64 d.since, .int .u64 td, .int .u64 E] 62)).drew
              have bX3 : BoxC (wr.alloc (.cells #[.int .i64 d.node, .int .u64 d.inc, .int .i64 1, .int .u64 wd, .int .u64 d.since, .int .u64 td, .int .u64 E] 62)).drew wr.heap.size 62 _ := bX2
              have haX : a < wr.heap.size := (rowBlock hRM.row rfl).2
              clear bX2 bX
              generalize (wr.alloc (.cells #[.int .i64 d.node, .int .u64 d.inc, .int .i64 1, .int .u64 wd, .int .u64 d.since, .int .u64 td, .int .u64 E] 62)).drew = W at *
              generalize wr.heap.size = X at *
              have dcW := hRM2.box.cell 0
              simp at dcW
              have x0 : W.cell? ⟨X, 0, none⟩ = some (.int .i64 d.node) := bX3.cell 0
              have x1 : W.cell? ⟨X, 1, none⟩ = some (.int .u64 d.inc) := bX3.cell 1
              have x2 : W.cell? ⟨X, 2, none⟩ = some (.int .i64 1) := bX3.cell 2
              have x3 : W.cell? ⟨X, 3, none⟩ = some (.int .u64 wd) := bX3.cell 3
              have x4 : W.cell? ⟨X, 4, none⟩ = some (.int .u64 d.since) := bX3.cell 4
              have x5 : W.cell? ⟨X, 5, none⟩ = some (.int .u64 td) := bX3.cell 5
              have x6 : W.cell? ⟨X, 6, none⟩ = some (.int .u64 E) := bX3.cell 6
              clear c0 c1 c2 c3 c4 c5 c6 u0 u1 u2 dc hRM kU hBa
              obtain ⟨a', e', hcells⟩ := rowAt hRM2.row (by omega)
              cases e'
              obtain ⟨c0, c1, c2, c3, c4, c5, c6⟩ := recAt hcells hd'
              have hfz := rowThaw hRM2.row
              have f0 := hfz (k * 7)
              have f1 := hfz (k * 7 + 1)
              have f2 := hfz (k * 7 + 2)
              have f3 := hfz (k * 7 + 3)
              have f4 := hfz (k * 7 + 4)
              have f5 := hfz (k * 7 + 5)
              have f6 := hfz (k * 7 + 6)
              clear hcells hfz
              have hRa : Rr ≠ a := fun e => hRM2.apart (by rw [e]; rfl)
              obtain ⟨hrowS, hFrS⟩ := row_set hRM2.row hkl ⟨d.node, d.inc, wd, d.since, td, E⟩
              have hWl : Rr < W.heap.size ∧ X < W.heap.size := ⟨hRM2.box.lt, bX3.lt⟩
              have hFrS' : Fr (fun j => j = a) W (W.setCells a (k * 7) [.int .i64 d.node, .int .u64 d.inc, .int .i64 1, .int .u64 wd, .int .u64 d.since, .int .u64 td, .int .u64 E]) := hFrS
              have hXa : X ≠ a := by omega
              have HF' := Lib.hid hFrS'
              clear hFrS'
              have HFR := Lib.hid (row7 HF'.out hrowS)
              clear hFrS hrowS
              go_region_held3 (fun w' => w'.cell? ⟨Rr, 0, none⟩ = some (.slice (some ⟨a, 0, none⟩) l.length c) ∧ w'.cell? ⟨X, 0, none⟩ = some (.int .i64 d.node) ∧ w'.cell? ⟨X, 1, none⟩ = some (.int .u64 d.inc) ∧ w'.cell? ⟨X, 2, none⟩ = some (.int .i64 1) ∧ w'.cell? ⟨X, 3, none⟩ = some (.int .u64 wd) ∧ w'.cell? ⟨X, 4, none⟩ = some (.int .u64 d.since) ∧ w'.cell? ⟨X, 5, none⟩ = some (.int .u64 td) ∧ w'.cell? ⟨X, 6, none⟩ = some (.int .u64 E)) (first | (with_reducible exact ⟨far7 HF'.out hWl.1 hRa dcW, far7 HF'.out hWl.2 hXa x0, far7 HF'.out hWl.2 hXa x1, far7 HF'.out hWl.2 hXa x2, far7 HF'.out hWl.2 hXa x3, far7 HF'.out hWl.2 hXa x4, far7 HF'.out hWl.2 hXa x5, far7 HF'.out hWl.2 hXa x6⟩) | go_keep) (fail)
              all_goals
                go_wp2
                go_ret2
                rw [Hfin.out]
                have hd'' : more d n base nodes = ⟨d.node, d.inc, wd, d.since, td, E⟩ := by
                  unfold more
                  rw [HWD.out, HTD.out]
                  show _ = (⟨d.node, d.inc, wd, d.since, td, E⟩ : Dbt)
                  rw [← HE.out]
                  rfl
                refine ⟨rfl, _, l.set k ⟨d.node, d.inc, wd, d.since, td, E⟩, ⟨HFR.out.1.boxC hRM2.box hRa, HFR.out.2, uniq_set l k d ⟨d.node, d.inc, wd, d.since, td, E⟩ hd' rfl HU.out, fun y hy => ?_⟩, fun m => ?_, .inl rfl, ?_⟩
                · rcases List.mem_or_eq_of_mem_set hy with hy | hy
                  · exact HOK.out y hy
                  · rw [hy, ← hd'']
                    exact ok_more (HOK.out d (List.mem_of_getElem? hd')) hnn
                · rw [lget_set l k d ⟨d.node, d.inc, wd, d.since, td, E⟩ m hd' rfl HU.out, hd'']
                  exact (lget_lput l _ m HU.out).symm
                · exact (Fr.of_below (S := SRM Rr (.slice (some ⟨a, 0, none⟩) l.length c)) hBW (fun i h1 h2 => absurd h1 (by omega))).trans HFR.out.1 (fun i h1 h2 => by subst h2; exact .inr rfl)
        · have hc1 : (decide (inc < d.inc)) = false := by simp; omega
          have hc2 : ((d.node : Int) != (d.node : Int)) = false := by simp
          have hc3 : ((d.inc : Int) == (inc : Int)) = false := by simp; omega
          have hc4 : (d.inc == inc) = false := by simp; omega
          have hN' := noneYet_next hN hd' (fun _ => hgt)
          go_wp2
          go_roundw
          case rel => exact ⟨k + 1, by omega, by go_num, hN', hBa _⟩
          case measure => simp [intOf]; omega
      · have hdn' : ((d.node : Int) != (node : Int)) = true := by simp; omega
        have hN' := noneYet_next hN hd (fun e => absurd e hdn)
        clear hdn hkeep hd hcells
        go_wp2
        go_roundw
        case rel => exact ⟨k + 1, by omega, by go_num, hN', hBa _⟩
        case measure => simp [intOf]; omega
    · obtain rfl : k = l.length := by omega
      clear hkeep
      have Hfin := Lib.hid (show rstep (lget l (node : Int)) node inc n now base nodes = (some (fresh node inc n now base nodes), true, 0) by
        rcases noneYet_all hN with e | ⟨x, e, hx⟩
        · rw [e]; rfl
        · rw [e]; exact (if_neg (by omega)).trans (if_neg (by omega)))
      have hdrop := rdrop_any wr Rr _ l hRM node
      clear hN
      go_wp2_with (first | (go_at_call 9; refine hdrop.mono ?_; rintro e w5 ⟨rfl, v5, hRM5, hv5, hF5⟩) | fail)
      have hs5 := hF5.size
      have u05 : w5.cell? ⟨w.heap.size, 0, none⟩ = some (.int .i64 node) := (World.cell?_of_block (w := wr) (hF5.block w.heap.size (by omega) (by omega))).trans u0
      have u15 : w5.cell? ⟨w.heap.size, 1, none⟩ = some (.int .u64 inc) := (World.cell?_of_block (w := wr) (hF5.block w.heap.size (by omega) (by omega))).trans u1
      have u25 : w5.cell? ⟨w.heap.size, 2, none⟩ = some (.int .i64 1) := (World.cell?_of_block (w := wr) (hF5.block w.heap.size (by omega) (by omega))).trans u2
      have hlen5 := hRM5.len
      obtain ⟨A5, c5, rfl⟩ := rowForm hRM5.row
      have dc5 := hRM5.box.cell 0
      simp at dc5
      have df5 := hRM5.box.frozen 0
      have hap := hRM5.apart
      obtain ⟨j0, hj, hy0, hy1, hy2⟩ := info_parts infoR
      have hw := wB_le base hbase nodes 0 hnodes
      generalize hE : laterB now (Fl.up (wB base nodes 0)) = E
      have HE := Lib.hid hE
      have hlater := later_any now (Fl.up (wB base nodes 0)) hnow
      rw [hE] at hlater
      clear hE u0 u1 u2 hdrop dc
      have hnot : (lnot l (node : Int)).length ≤ 64 := hlen5
      have hlow : w.heap.size ≤ w5.heap.size := by omega
      have hloU : w.heap.size < w5.heap.size := by omega
      have hRr5 : Rr < w5.heap.size := hRM5.box.lt
      have hz7 : ∀ u ∈ ([.int .i64 node, .int .u64 inc, .int .i64 1, .int .u64 q, .int .u64 now, .int .u64 0, .int .u64 E] : List Value), u.oneCell' = true := by simp [Value.oneCell']
      have hapU : (Value.slice A5 (lnot l (node : Int)).length c5).ownBlock ≠ some w.heap.size := fun e => by have := hv5 _ e; omega
      have hRM5' := Lib.hid hRM5
      have hgU := hF5.size
      rw [show ({ dst := some 105, op := .load 29 (.tmp 104), type := 29, pos := "ref.go:67", after := #[{ on := 3, ground := .data }], guard := none } : Oper) = ldRow from rfl]
      go_region_held3 (fun w' => w'.cell? ⟨w.heap.size, 0, none⟩ = some (.int .i64 node) ∧ w'.cell? ⟨w.heap.size, 1, none⟩ = some (.int .u64 inc) ∧ w'.cell? ⟨w.heap.size, 2, none⟩ = some (.int .i64 1))
        (first
          | (with_reducible exact ⟨(World.cell?_of_block (Below.heap_setCell w6 ⟨Rr, 0, none⟩ _ w.heap.size (by show w.heap.size ≠ Rr; omega))).trans z0, (World.cell?_of_block (Below.heap_setCell w6 ⟨Rr, 0, none⟩ _ w.heap.size (by show w.heap.size ≠ Rr; omega))).trans z1, (World.cell?_of_block (Below.heap_setCell w6 ⟨Rr, 0, none⟩ _ w.heap.size (by show w.heap.size ≠ Rr; omega))).trans z2⟩)
          | (with_reducible exact ⟨z0, z1, z2⟩)
          | go_keep)
        (first
          | (go_at_call 23; refine (rwith0_any n q hq hnn _).mono ?_; rintro e w' ⟨rfl, rfl⟩)
          | (go_at_call 26; refine (rwait_any base hbase nodes 0 hnodes _).mono ?_; rintro e w' ⟨rfl, rfl⟩)
          | (go_at_call 25; refine (rticks_any _ hw _).mono ?_; rintro e w' ⟨rfl, rfl⟩)
          | (go_at_call 24; refine (hlater _).mono ?_; rintro e w' ⟨rfl, rfl⟩)
          | (refine step_append_lies _ (by rfl) _ _ _ (by rfl) 0 62 j0 _ 7 56 Try.underlying29 hj hy0 hy1 hy2 rfl (by omega) (.slice A5 (lnot l (node : Int)).length c5) _ _ (by rfl) ((hRM5.row.alloc _).drew)
                ⟨w5.heap.size, 0, none⟩ 1 1 [.int .i64 node, .int .u64 inc, .int .i64 1, .int .u64 q, .int .u64 now, .int .u64 0, .int .u64 E] (by rfl) (by rfl) (World.news_of_block (cs := #[.int .i64 node, .int .u64 inc, .int .i64 1, .int .u64 q, .int .u64 now, .int .u64 0, .int .u64 E]) (t := 62) (fr := (0, 0)) (heap_alloc_new w5 _)) hz7
                (by omega) (by simp only [maxLen]; omega) (by omega) (Nat.zero_le _) (w5.heap.size + 1) (by simp) ?_; intro gg cap w6 hown6 hgrow hat hlt; have z0 := (hgrow.cell_far ⟨w.heap.size, 0, none⟩ (by simp; omega) (Ne.symm hapU)).trans (((Below.refl _ w5).alloc (Nat.le_refl _) _).cell (p := ⟨w.heap.size, 0, none⟩) hloU |>.trans u05); have z1 := (hgrow.cell_far ⟨w.heap.size, 1, none⟩ (by simp; omega) (Ne.symm hapU)).trans (((Below.refl _ w5).alloc (Nat.le_refl _) _).cell (p := ⟨w.heap.size, 1, none⟩) hloU |>.trans u15); have z2 := (hgrow.cell_far ⟨w.heap.size, 2, none⟩ (by simp; omega) (Ne.symm hapU)).trans (((Below.refl _ w5).alloc (Nat.le_refl _) _).cell (p := ⟨w.heap.size, 2, none⟩) hloU |>.trans u25); have dc6 := (hgrow.cell_far ⟨Rr, 0, none⟩ (by simp; omega) (Ne.symm hap)).trans (((Below.refl _ w5).alloc (Nat.le_refl _) _).cell (p := ⟨Rr, 0, none⟩) hRr5 |>.trans dc5); have df6 := (hgrow.frozen_far ⟨Rr, 0, none⟩ (by simp; omega) (Ne.symm hap)).trans (((Below.refl _ w5).alloc (Nat.le_refl _) _).frozen (p := ⟨Rr, 0, none⟩) hRr5 |>.trans df5)))
      all_goals
        go_wp2
        go_ret2
        rw [Hfin.out]
        have Hc := fresh_cells (node := node) (inc := inc) (n := n) (base := base) (nodes := nodes) hq.out HE.out
        rw [← Hc] at hown6
        exact ⟨rfl, rm_app (d := fresh node inc n now base nodes) hRM5 hgrow hown6 (ok_fresh (by omega) hinc hnn hnow) HU.out hBx hF5 hv5 hat⟩
end Go.Proofs.Ytilfngegmdedpaa
