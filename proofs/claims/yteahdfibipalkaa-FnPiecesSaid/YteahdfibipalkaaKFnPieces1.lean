/- Texts for: FnPieces holds for every input, without a condition: adding pieces keeps and reads back every byte, in any order. -/
import Derived.Test.YteahdfibipalkaaKFnPieces0

namespace Go.Proofs.Yteahdfibipalkaa.G
open Go.RowKit Go.Proofs.YteahdfibipalkaaW.PrintWords Go.Proofs.YteahdfibipalkaaW.PrintLast Go.Proofs.YteahdfibipalkaaW.PrintMore
attribute [local go_sem] max2_int min2_int max_two min_two max_three min_three max_four min_four   -- for this text's walks alone
set_option linter.unusedVariables false
set_option linter.unusedSimpArgs false

/-! ### impl_IsSpanSet: function 16 -/
set_option maxHeartbeats 8000000 in
set_option maxRecDepth 100000 in
theorem impl_IsSpanSet.calls (k : Nat) (A0 : Option Addr) (c0 : Nat) (l0 : List (S26)) (r : Bool) (w : World) (hr0 : Kd.C k26 w A0 l0.length l0) (hc0 : l0.length ≤ c0) (h : impl_IsSpanSet.f k l0 = some r) :
  Calls Try.prog 16 #[.slice A0 l0.length c0] w fun e w' => e = .returned (.bool r) ∧ Below w.heap.size w w' := by
 have hu26 := Try.underlying26
 have HR0 := zM hr0
 have HC0 := zM hc0
 clear hr0 hc0
 have HB := zM (Below.refl w.heap.size w)
 have H : (impl_IsSpanSet.l0 k l0 l0 (l0.length : Int) 0) = some r := h
 clear h
 have H' := zM H
 clear H
 go_enter Try.func16, Try.ntmps16
 go_wp2
 repeat (go_quiet (fail); try go_wp2)
 go_loopg [7] k (fun kq v7 w' => ∃ (x7_1 : Int), v7 = .int .i64 x7_1 ∧ Aside0 (impl_IsSpanSet.l0 kq l0 l0 (l0.length : Int) x7_1 = some r) ∧ Aside0 (kq ≤ k) ∧ Aside0 (Below w.heap.size w w'))
 case atStart => exact ⟨(0), zS, H', ⟨Nat.le_refl _⟩, ⟨(zB HB.out)⟩⟩
 case round =>
  clear H'
  try clear c1
  obtain ⟨x7_1, rfl, HA, HK1, HB⟩ := hrel
  cases gk with
  | zero => exact absurd HA.out (by simp [impl_IsSpanSet.l0])
  | succ k1 =>
   have H := HA.out
   clear HA
   simp only [impl_IsSpanSet.l0] at H
   by_cases c2 : x7_1 < (l0.length : Int)
   ·rw [if_pos c2] at H
    have c2b0 : decide (x7_1 < (l0.length : Int)) = true := decide_eq_true c2
    clear c2
    by_cases c3 : 0 ≤ x7_1
    ·rw [if_pos c3] at H
     have c3b0 : decide (0 ≤ x7_1) = true := decide_eq_true c3
     clear c3
     by_cases c4 : x7_1 < (l0.length : Int)
     ·rw [if_pos c4] at H
      have c4b0 : decide (x7_1 < (l0.length : Int)) = true := decide_eq_true c4
      clear c4
      by_cases c5 : ((rd_T26 l0 x7_1).f0) < 0
      ·rw [if_pos c5] at H
       have c5b0 : decide (((rd_T26 l0 x7_1).f0) < 0) = true := decide_eq_true c5
       clear c5
       obtain rfl := Option.some.inj H
       have p217 : 0 ≤ (x7_1 : Int) := zD
       have q217 : x7_1 < (l0.length : Int) := zD
       obtain ⟨ad217, e217, hx217_0, hx217_1⟩ := at_T26 HR0.out x7_1 p217 q217
       cases e217
       replace hx217_0 := (HB.out.cell (World.block_lt_of_cell? w _ hx217_0)).trans hx217_0
       replace hx217_1 := (HB.out.cell (World.block_lt_of_cell? w _ hx217_1)).trans hx217_1
       replace p217 := eq_true p217
       replace q217 := eq_true q217
       go_wp2_with (first | ((with_reducible refine gate_dst (N := 4) rfl ?_); refine box_event ?hg (N := 4) ?hd (cs := #[.int .i64 0, .int .i64 0]) (t := 26) ?hr ?_; (case hd => rfl); (case hg => rfl); (case hr => first | (go_simp; done) | (go_simp; rfl)); intro gb218 hg w6 hbox hb; have n0_ := zM (below_step (zB HB.out) hb); have n1_ := zM (hbox); have n2_ := zM ((by rw [hg]; exact (below_size (zB HB.out)) : w.heap.size ≤ gb218)); have n3_ := zM ((by rw [hg]; exact (below_size (zB HB.out)) : w.heap.size ≤ gb218)); clear HB; have HB := n0_; have BK218 := n1_; have GW218 := n2_; have GE218 := n3_; clear n0_ n1_ n2_ n3_; clear hb hbox hg; have hcz7_0 : w6.cell? ⟨gb218, 0, none⟩ = some (.int .i64 0) := (blk_cell BK218.out 0).trans rfl; have hcz7_1 : w6.cell? ⟨gb218, 1, none⟩ = some (.int .i64 0) := (blk_cell BK218.out 1).trans rfl; have hfz7_0 := blk_frozen BK218.out 0; have hfz7_1 := blk_frozen BK218.out 1))
       repeat (go_quiet (first | ((with_reducible refine gate_dst (N := 4) rfl ?_); refine box_event ?hg (N := 4) ?hd (cs := #[.int .i64 0, .int .i64 0]) (t := 26) ?hr ?_; (case hd => rfl); (case hg => rfl); (case hr => first | (go_simp; done) | (go_simp; rfl)); intro gb218 hg w6 hbox hb; have n0_ := zM (below_step (zB HB.out) hb); have n1_ := zM (hbox); have n2_ := zM ((by rw [hg]; exact (below_size (zB HB.out)) : w.heap.size ≤ gb218)); have n3_ := zM ((by rw [hg]; exact (below_size (zB HB.out)) : w.heap.size ≤ gb218)); clear HB; have HB := n0_; have BK218 := n1_; have GW218 := n2_; have GE218 := n3_; clear n0_ n1_ n2_ n3_; clear hb hbox hg; have hcz7_0 : w6.cell? ⟨gb218, 0, none⟩ = some (.int .i64 0) := (blk_cell BK218.out 0).trans rfl; have hcz7_1 : w6.cell? ⟨gb218, 1, none⟩ = some (.int .i64 0) := (blk_cell BK218.out 1).trans rfl; have hfz7_0 := blk_frozen BK218.out 0; have hfz7_1 := blk_frozen BK218.out 1)); try go_wp2_with (first | ((with_reducible refine gate_dst (N := 4) rfl ?_); refine box_event ?hg (N := 4) ?hd (cs := #[.int .i64 0, .int .i64 0]) (t := 26) ?hr ?_; (case hd => rfl); (case hg => rfl); (case hr => first | (go_simp; done) | (go_simp; rfl)); intro gb218 hg w6 hbox hb; have n0_ := zM (below_step (zB HB.out) hb); have n1_ := zM (hbox); have n2_ := zM ((by rw [hg]; exact (below_size (zB HB.out)) : w.heap.size ≤ gb218)); have n3_ := zM ((by rw [hg]; exact (below_size (zB HB.out)) : w.heap.size ≤ gb218)); clear HB; have HB := n0_; have BK218 := n1_; have GW218 := n2_; have GE218 := n3_; clear n0_ n1_ n2_ n3_; clear hb hbox hg; have hcz7_0 : w6.cell? ⟨gb218, 0, none⟩ = some (.int .i64 0) := (blk_cell BK218.out 0).trans rfl; have hcz7_1 : w6.cell? ⟨gb218, 1, none⟩ = some (.int .i64 0) := (blk_cell BK218.out 1).trans rfl; have hfz7_0 := blk_frozen BK218.out 0; have hfz7_1 := blk_frozen BK218.out 1)))
       go_ret
       exact ⟨zE, (zB1 GE218.out HB.out)⟩
      ·rw [if_neg c5] at H
       have c5b0 : decide (((rd_T26 l0 x7_1).f0) < 0) = false := decide_eq_false c5
       clear c5
       by_cases c8 : ((rd_T26 l0 x7_1).f0) ≥ ((rd_T26 l0 x7_1).f1)
       ·rw [if_pos c8] at H
        have c8b0 : decide (((rd_T26 l0 x7_1).f1) ≤ ((rd_T26 l0 x7_1).f0)) = true := decide_eq_true c8
        clear c8
        obtain rfl := Option.some.inj H
        have p217 : 0 ≤ (x7_1 : Int) := zD
        have q217 : x7_1 < (l0.length : Int) := zD
        obtain ⟨ad217, e217, hx217_0, hx217_1⟩ := at_T26 HR0.out x7_1 p217 q217
        cases e217
        replace hx217_0 := (HB.out.cell (World.block_lt_of_cell? w _ hx217_0)).trans hx217_0
        replace hx217_1 := (HB.out.cell (World.block_lt_of_cell? w _ hx217_1)).trans hx217_1
        replace p217 := eq_true p217
        replace q217 := eq_true q217
        go_wp2_with (first | ((with_reducible refine gate_dst (N := 4) rfl ?_); refine box_event ?hg (N := 4) ?hd (cs := #[.int .i64 0, .int .i64 0]) (t := 26) ?hr ?_; (case hd => rfl); (case hg => rfl); (case hr => first | (go_simp; done) | (go_simp; rfl)); intro gb218 hg w9 hbox hb; have n0_ := zM (below_step (zB HB.out) hb); have n1_ := zM (hbox); have n2_ := zM ((by rw [hg]; exact (below_size (zB HB.out)) : w.heap.size ≤ gb218)); have n3_ := zM ((by rw [hg]; exact (below_size (zB HB.out)) : w.heap.size ≤ gb218)); clear HB; have HB := n0_; have BK218 := n1_; have GW218 := n2_; have GE218 := n3_; clear n0_ n1_ n2_ n3_; clear hb hbox hg; have hcz10_0 : w9.cell? ⟨gb218, 0, none⟩ = some (.int .i64 0) := (blk_cell BK218.out 0).trans rfl; have hcz10_1 : w9.cell? ⟨gb218, 1, none⟩ = some (.int .i64 0) := (blk_cell BK218.out 1).trans rfl; have hfz10_0 := blk_frozen BK218.out 0; have hfz10_1 := blk_frozen BK218.out 1))
        repeat (go_quiet (first | ((with_reducible refine gate_dst (N := 4) rfl ?_); refine box_event ?hg (N := 4) ?hd (cs := #[.int .i64 0, .int .i64 0]) (t := 26) ?hr ?_; (case hd => rfl); (case hg => rfl); (case hr => first | (go_simp; done) | (go_simp; rfl)); intro gb218 hg w9 hbox hb; have n0_ := zM (below_step (zB HB.out) hb); have n1_ := zM (hbox); have n2_ := zM ((by rw [hg]; exact (below_size (zB HB.out)) : w.heap.size ≤ gb218)); have n3_ := zM ((by rw [hg]; exact (below_size (zB HB.out)) : w.heap.size ≤ gb218)); clear HB; have HB := n0_; have BK218 := n1_; have GW218 := n2_; have GE218 := n3_; clear n0_ n1_ n2_ n3_; clear hb hbox hg; have hcz10_0 : w9.cell? ⟨gb218, 0, none⟩ = some (.int .i64 0) := (blk_cell BK218.out 0).trans rfl; have hcz10_1 : w9.cell? ⟨gb218, 1, none⟩ = some (.int .i64 0) := (blk_cell BK218.out 1).trans rfl; have hfz10_0 := blk_frozen BK218.out 0; have hfz10_1 := blk_frozen BK218.out 1)); try go_wp2_with (first | ((with_reducible refine gate_dst (N := 4) rfl ?_); refine box_event ?hg (N := 4) ?hd (cs := #[.int .i64 0, .int .i64 0]) (t := 26) ?hr ?_; (case hd => rfl); (case hg => rfl); (case hr => first | (go_simp; done) | (go_simp; rfl)); intro gb218 hg w9 hbox hb; have n0_ := zM (below_step (zB HB.out) hb); have n1_ := zM (hbox); have n2_ := zM ((by rw [hg]; exact (below_size (zB HB.out)) : w.heap.size ≤ gb218)); have n3_ := zM ((by rw [hg]; exact (below_size (zB HB.out)) : w.heap.size ≤ gb218)); clear HB; have HB := n0_; have BK218 := n1_; have GW218 := n2_; have GE218 := n3_; clear n0_ n1_ n2_ n3_; clear hb hbox hg; have hcz10_0 : w9.cell? ⟨gb218, 0, none⟩ = some (.int .i64 0) := (blk_cell BK218.out 0).trans rfl; have hcz10_1 : w9.cell? ⟨gb218, 1, none⟩ = some (.int .i64 0) := (blk_cell BK218.out 1).trans rfl; have hfz10_0 := blk_frozen BK218.out 0; have hfz10_1 := blk_frozen BK218.out 1)))
        go_ret
        exact ⟨zE, (zB1 GE218.out HB.out)⟩
       ·rw [if_neg c8] at H
        have c8b0 : decide (((rd_T26 l0 x7_1).f1) ≤ ((rd_T26 l0 x7_1).f0)) = false := decide_eq_false c8
        clear c8
        by_cases c11 : ((rd_T26 l0 x7_1).f1) > 1000000000000
        ·rw [if_pos c11] at H
         have c11b0 : decide (1000000000000 < ((rd_T26 l0 x7_1).f1)) = true := decide_eq_true c11
         clear c11
         obtain rfl := Option.some.inj H
         have p217 : 0 ≤ (x7_1 : Int) := zD
         have q217 : x7_1 < (l0.length : Int) := zD
         obtain ⟨ad217, e217, hx217_0, hx217_1⟩ := at_T26 HR0.out x7_1 p217 q217
         cases e217
         replace hx217_0 := (HB.out.cell (World.block_lt_of_cell? w _ hx217_0)).trans hx217_0
         replace hx217_1 := (HB.out.cell (World.block_lt_of_cell? w _ hx217_1)).trans hx217_1
         replace p217 := eq_true p217
         replace q217 := eq_true q217
         go_wp2_with (first | ((with_reducible refine gate_dst (N := 4) rfl ?_); refine box_event ?hg (N := 4) ?hd (cs := #[.int .i64 0, .int .i64 0]) (t := 26) ?hr ?_; (case hd => rfl); (case hg => rfl); (case hr => first | (go_simp; done) | (go_simp; rfl)); intro gb218 hg w12 hbox hb; have n0_ := zM (below_step (zB HB.out) hb); have n1_ := zM (hbox); have n2_ := zM ((by rw [hg]; exact (below_size (zB HB.out)) : w.heap.size ≤ gb218)); have n3_ := zM ((by rw [hg]; exact (below_size (zB HB.out)) : w.heap.size ≤ gb218)); clear HB; have HB := n0_; have BK218 := n1_; have GW218 := n2_; have GE218 := n3_; clear n0_ n1_ n2_ n3_; clear hb hbox hg; have hcz13_0 : w12.cell? ⟨gb218, 0, none⟩ = some (.int .i64 0) := (blk_cell BK218.out 0).trans rfl; have hcz13_1 : w12.cell? ⟨gb218, 1, none⟩ = some (.int .i64 0) := (blk_cell BK218.out 1).trans rfl; have hfz13_0 := blk_frozen BK218.out 0; have hfz13_1 := blk_frozen BK218.out 1))
         repeat (go_quiet (first | ((with_reducible refine gate_dst (N := 4) rfl ?_); refine box_event ?hg (N := 4) ?hd (cs := #[.int .i64 0, .int .i64 0]) (t := 26) ?hr ?_; (case hd => rfl); (case hg => rfl); (case hr => first | (go_simp; done) | (go_simp; rfl)); intro gb218 hg w12 hbox hb; have n0_ := zM (below_step (zB HB.out) hb); have n1_ := zM (hbox); have n2_ := zM ((by rw [hg]; exact (below_size (zB HB.out)) : w.heap.size ≤ gb218)); have n3_ := zM ((by rw [hg]; exact (below_size (zB HB.out)) : w.heap.size ≤ gb218)); clear HB; have HB := n0_; have BK218 := n1_; have GW218 := n2_; have GE218 := n3_; clear n0_ n1_ n2_ n3_; clear hb hbox hg; have hcz13_0 : w12.cell? ⟨gb218, 0, none⟩ = some (.int .i64 0) := (blk_cell BK218.out 0).trans rfl; have hcz13_1 : w12.cell? ⟨gb218, 1, none⟩ = some (.int .i64 0) := (blk_cell BK218.out 1).trans rfl; have hfz13_0 := blk_frozen BK218.out 0; have hfz13_1 := blk_frozen BK218.out 1)); try go_wp2_with (first | ((with_reducible refine gate_dst (N := 4) rfl ?_); refine box_event ?hg (N := 4) ?hd (cs := #[.int .i64 0, .int .i64 0]) (t := 26) ?hr ?_; (case hd => rfl); (case hg => rfl); (case hr => first | (go_simp; done) | (go_simp; rfl)); intro gb218 hg w12 hbox hb; have n0_ := zM (below_step (zB HB.out) hb); have n1_ := zM (hbox); have n2_ := zM ((by rw [hg]; exact (below_size (zB HB.out)) : w.heap.size ≤ gb218)); have n3_ := zM ((by rw [hg]; exact (below_size (zB HB.out)) : w.heap.size ≤ gb218)); clear HB; have HB := n0_; have BK218 := n1_; have GW218 := n2_; have GE218 := n3_; clear n0_ n1_ n2_ n3_; clear hb hbox hg; have hcz13_0 : w12.cell? ⟨gb218, 0, none⟩ = some (.int .i64 0) := (blk_cell BK218.out 0).trans rfl; have hcz13_1 : w12.cell? ⟨gb218, 1, none⟩ = some (.int .i64 0) := (blk_cell BK218.out 1).trans rfl; have hfz13_0 := blk_frozen BK218.out 0; have hfz13_1 := blk_frozen BK218.out 1)))
         go_ret
         exact ⟨zE, (zB1 GE218.out HB.out)⟩
        ·rw [if_neg c11] at H
         have c11b0 : decide (1000000000000 < ((rd_T26 l0 x7_1).f1)) = false := decide_eq_false c11
         clear c11
         by_cases c14 : x7_1 > 0
         ·rw [if_pos c14] at H
          have c14b0 : decide (0 < x7_1) = true := decide_eq_true c14
          clear c14
          obtain ⟨ji15, hji15⟩ : ∃ j_ : Int, (wrap64 (x7_1 - 1)) = j_ := ⟨_, rfl⟩
          replace H : (if 0 ≤ (ji15) then (if (ji15) < (l0.length : Int) then (if ((rd_T26 l0 (ji15)).f1) ≥ ((rd_T26 l0 x7_1).f0) then (some false) else (impl_IsSpanSet.l0 k1 l0 l0 (l0.length : Int) (wrap64 (x7_1 + 1)))) else (none)) else (none)) = some r := by first | (rw [hji15] at H; exact H) | (simp only [hji15] at H ⊢; exact H)
          have hji15w : (IntKind.i64.wrap (x7_1 - 1)) = ji15 := (i64_w _).trans hji15
          by_cases c16 : 0 ≤ (ji15)
          ·rw [if_pos c16] at H
           have c16b0 : decide (0 ≤ (ji15)) = true := decide_eq_true c16
           clear c16
           by_cases c17 : (ji15) < (l0.length : Int)
           ·rw [if_pos c17] at H
            have c17b0 : decide ((ji15) < (l0.length : Int)) = true := decide_eq_true c17
            clear c17
            by_cases c18 : ((rd_T26 l0 (ji15)).f1) ≥ ((rd_T26 l0 x7_1).f0)
            ·rw [if_pos c18] at H
             have c18b0 : decide (((rd_T26 l0 x7_1).f0) ≤ ((rd_T26 l0 (ji15)).f1)) = true := decide_eq_true c18
             clear c18
             obtain rfl := Option.some.inj H
             have p217 : 0 ≤ (x7_1 : Int) := zD
             have q217 : x7_1 < (l0.length : Int) := zD
             obtain ⟨ad217, e217, hx217_0, hx217_1⟩ := at_T26 HR0.out x7_1 p217 q217
             cases e217
             replace hx217_0 := (HB.out.cell (World.block_lt_of_cell? w _ hx217_0)).trans hx217_0
             replace hx217_1 := (HB.out.cell (World.block_lt_of_cell? w _ hx217_1)).trans hx217_1
             replace p217 := eq_true p217
             replace q217 := eq_true q217
             go_wp2_with (first | ((with_reducible refine gate_dst (N := 4) rfl ?_); refine box_event ?hg (N := 4) ?hd (cs := #[.int .i64 0, .int .i64 0]) (t := 26) ?hr ?_; (case hd => rfl); (case hg => rfl); (case hr => first | (go_simp; done) | (go_simp; rfl)); intro gb218 hg w19 hbox hb; have n0_ := zM (below_step (zB HB.out) hb); have n1_ := zM (hbox); have n2_ := zM ((by rw [hg]; exact (below_size (zB HB.out)) : w.heap.size ≤ gb218)); have n3_ := zM ((by rw [hg]; exact (below_size (zB HB.out)) : w.heap.size ≤ gb218)); clear HB; have HB := n0_; have BK218 := n1_; have GW218 := n2_; have GE218 := n3_; clear n0_ n1_ n2_ n3_; clear hb hbox hg; have hcz20_0 : w19.cell? ⟨gb218, 0, none⟩ = some (.int .i64 0) := (blk_cell BK218.out 0).trans rfl; have hcz20_1 : w19.cell? ⟨gb218, 1, none⟩ = some (.int .i64 0) := (blk_cell BK218.out 1).trans rfl; have hfz20_0 := blk_frozen BK218.out 0; have hfz20_1 := blk_frozen BK218.out 1; have p219 : 0 ≤ ((ji15) : Int) := zD; have q219 : (ji15) < (l0.length : Int) := zD; obtain ⟨ad219, e219, hx219_0, hx219_1⟩ := at_T26 HR0.out (ji15) p219 q219; obtain rfl : ad217 = ad219 := (by injection e219); have hn219_0 : ad217.block ≠ gb218 := Nat.ne_of_lt (Nat.lt_of_lt_of_le (by have := World.block_lt_of_cell? _ _ hx219_0; first | rwa [add_block] at this | exact this) GW218.out); have hn219_1 : ad217.block ≠ gb218 := Nat.ne_of_lt (Nat.lt_of_lt_of_le (by have := World.block_lt_of_cell? _ _ hx219_0; first | rwa [add_block] at this | exact this) GW218.out); replace hx219_0 := (HB.out.cell (World.block_lt_of_cell? w _ hx219_0)).trans hx219_0; replace hx219_1 := (HB.out.cell (World.block_lt_of_cell? w _ hx219_1)).trans hx219_1; replace hx219_0 := (cell_far (p := ⟨gb218, 0, none⟩) (by first | (rw [add_block]; exact hn219_0) | (show (Addr.add _ _).block ≠ _; rw [add_block]; exact hn219_0) | exact hn219_0) (.int .i64 ((rd_T26 l0 x7_1).f0))).trans hx219_0; replace hx219_1 := (cell_far (p := ⟨gb218, 0, none⟩) (by first | (rw [add_block]; exact hn219_0) | (show (Addr.add _ _).block ≠ _; rw [add_block]; exact hn219_0) | exact hn219_0) (.int .i64 ((rd_T26 l0 x7_1).f0))).trans hx219_1; replace hx219_0 := (cell_far (p := ⟨gb218, 1, none⟩) (by first | (rw [add_block]; exact hn219_1) | (show (Addr.add _ _).block ≠ _; rw [add_block]; exact hn219_1) | exact hn219_1) (.int .i64 ((rd_T26 l0 x7_1).f1))).trans hx219_0; replace hx219_1 := (cell_far (p := ⟨gb218, 1, none⟩) (by first | (rw [add_block]; exact hn219_1) | (show (Addr.add _ _).block ≠ _; rw [add_block]; exact hn219_1) | exact hn219_1) (.int .i64 ((rd_T26 l0 x7_1).f1))).trans hx219_1; (try have hy219_0 := fun (n_ : Nat) => (show ((((w19.drewN n_).setCell ⟨gb218, 0, none⟩ (.int .i64 ((rd_T26 l0 x7_1).f0))).setCell ⟨gb218, 1, none⟩ (.int .i64 ((rd_T26 l0 x7_1).f1)))).cell? _ = some _ from hx219_0)); (try have hy219_1 := fun (n_ : Nat) => (show ((((w19.drewN n_).setCell ⟨gb218, 0, none⟩ (.int .i64 ((rd_T26 l0 x7_1).f0))).setCell ⟨gb218, 1, none⟩ (.int .i64 ((rd_T26 l0 x7_1).f1)))).cell? _ = some _ from hx219_1)); clear hn219_0; clear hn219_1; replace p219 := eq_true p219; replace q219 := eq_true q219))
             repeat (go_quiet (first | ((with_reducible refine gate_dst (N := 4) rfl ?_); refine box_event ?hg (N := 4) ?hd (cs := #[.int .i64 0, .int .i64 0]) (t := 26) ?hr ?_; (case hd => rfl); (case hg => rfl); (case hr => first | (go_simp; done) | (go_simp; rfl)); intro gb218 hg w19 hbox hb; have n0_ := zM (below_step (zB HB.out) hb); have n1_ := zM (hbox); have n2_ := zM ((by rw [hg]; exact (below_size (zB HB.out)) : w.heap.size ≤ gb218)); have n3_ := zM ((by rw [hg]; exact (below_size (zB HB.out)) : w.heap.size ≤ gb218)); clear HB; have HB := n0_; have BK218 := n1_; have GW218 := n2_; have GE218 := n3_; clear n0_ n1_ n2_ n3_; clear hb hbox hg; have hcz20_0 : w19.cell? ⟨gb218, 0, none⟩ = some (.int .i64 0) := (blk_cell BK218.out 0).trans rfl; have hcz20_1 : w19.cell? ⟨gb218, 1, none⟩ = some (.int .i64 0) := (blk_cell BK218.out 1).trans rfl; have hfz20_0 := blk_frozen BK218.out 0; have hfz20_1 := blk_frozen BK218.out 1; have p219 : 0 ≤ ((ji15) : Int) := zD; have q219 : (ji15) < (l0.length : Int) := zD; obtain ⟨ad219, e219, hx219_0, hx219_1⟩ := at_T26 HR0.out (ji15) p219 q219; obtain rfl : ad217 = ad219 := (by injection e219); have hn219_0 : ad217.block ≠ gb218 := Nat.ne_of_lt (Nat.lt_of_lt_of_le (by have := World.block_lt_of_cell? _ _ hx219_0; first | rwa [add_block] at this | exact this) GW218.out); have hn219_1 : ad217.block ≠ gb218 := Nat.ne_of_lt (Nat.lt_of_lt_of_le (by have := World.block_lt_of_cell? _ _ hx219_0; first | rwa [add_block] at this | exact this) GW218.out); replace hx219_0 := (HB.out.cell (World.block_lt_of_cell? w _ hx219_0)).trans hx219_0; replace hx219_1 := (HB.out.cell (World.block_lt_of_cell? w _ hx219_1)).trans hx219_1; replace hx219_0 := (cell_far (p := ⟨gb218, 0, none⟩) (by first | (rw [add_block]; exact hn219_0) | (show (Addr.add _ _).block ≠ _; rw [add_block]; exact hn219_0) | exact hn219_0) (.int .i64 ((rd_T26 l0 x7_1).f0))).trans hx219_0; replace hx219_1 := (cell_far (p := ⟨gb218, 0, none⟩) (by first | (rw [add_block]; exact hn219_0) | (show (Addr.add _ _).block ≠ _; rw [add_block]; exact hn219_0) | exact hn219_0) (.int .i64 ((rd_T26 l0 x7_1).f0))).trans hx219_1; replace hx219_0 := (cell_far (p := ⟨gb218, 1, none⟩) (by first | (rw [add_block]; exact hn219_1) | (show (Addr.add _ _).block ≠ _; rw [add_block]; exact hn219_1) | exact hn219_1) (.int .i64 ((rd_T26 l0 x7_1).f1))).trans hx219_0; replace hx219_1 := (cell_far (p := ⟨gb218, 1, none⟩) (by first | (rw [add_block]; exact hn219_1) | (show (Addr.add _ _).block ≠ _; rw [add_block]; exact hn219_1) | exact hn219_1) (.int .i64 ((rd_T26 l0 x7_1).f1))).trans hx219_1; (try have hy219_0 := fun (n_ : Nat) => (show ((((w19.drewN n_).setCell ⟨gb218, 0, none⟩ (.int .i64 ((rd_T26 l0 x7_1).f0))).setCell ⟨gb218, 1, none⟩ (.int .i64 ((rd_T26 l0 x7_1).f1)))).cell? _ = some _ from hx219_0)); (try have hy219_1 := fun (n_ : Nat) => (show ((((w19.drewN n_).setCell ⟨gb218, 0, none⟩ (.int .i64 ((rd_T26 l0 x7_1).f0))).setCell ⟨gb218, 1, none⟩ (.int .i64 ((rd_T26 l0 x7_1).f1)))).cell? _ = some _ from hx219_1)); clear hn219_0; clear hn219_1; replace p219 := eq_true p219; replace q219 := eq_true q219)); try go_wp2_with (first | ((with_reducible refine gate_dst (N := 4) rfl ?_); refine box_event ?hg (N := 4) ?hd (cs := #[.int .i64 0, .int .i64 0]) (t := 26) ?hr ?_; (case hd => rfl); (case hg => rfl); (case hr => first | (go_simp; done) | (go_simp; rfl)); intro gb218 hg w19 hbox hb; have n0_ := zM (below_step (zB HB.out) hb); have n1_ := zM (hbox); have n2_ := zM ((by rw [hg]; exact (below_size (zB HB.out)) : w.heap.size ≤ gb218)); have n3_ := zM ((by rw [hg]; exact (below_size (zB HB.out)) : w.heap.size ≤ gb218)); clear HB; have HB := n0_; have BK218 := n1_; have GW218 := n2_; have GE218 := n3_; clear n0_ n1_ n2_ n3_; clear hb hbox hg; have hcz20_0 : w19.cell? ⟨gb218, 0, none⟩ = some (.int .i64 0) := (blk_cell BK218.out 0).trans rfl; have hcz20_1 : w19.cell? ⟨gb218, 1, none⟩ = some (.int .i64 0) := (blk_cell BK218.out 1).trans rfl; have hfz20_0 := blk_frozen BK218.out 0; have hfz20_1 := blk_frozen BK218.out 1; have p219 : 0 ≤ ((ji15) : Int) := zD; have q219 : (ji15) < (l0.length : Int) := zD; obtain ⟨ad219, e219, hx219_0, hx219_1⟩ := at_T26 HR0.out (ji15) p219 q219; obtain rfl : ad217 = ad219 := (by injection e219); have hn219_0 : ad217.block ≠ gb218 := Nat.ne_of_lt (Nat.lt_of_lt_of_le (by have := World.block_lt_of_cell? _ _ hx219_0; first | rwa [add_block] at this | exact this) GW218.out); have hn219_1 : ad217.block ≠ gb218 := Nat.ne_of_lt (Nat.lt_of_lt_of_le (by have := World.block_lt_of_cell? _ _ hx219_0; first | rwa [add_block] at this | exact this) GW218.out); replace hx219_0 := (HB.out.cell (World.block_lt_of_cell? w _ hx219_0)).trans hx219_0; replace hx219_1 := (HB.out.cell (World.block_lt_of_cell? w _ hx219_1)).trans hx219_1; replace hx219_0 := (cell_far (p := ⟨gb218, 0, none⟩) (by first | (rw [add_block]; exact hn219_0) | (show (Addr.add _ _).block ≠ _; rw [add_block]; exact hn219_0) | exact hn219_0) (.int .i64 ((rd_T26 l0 x7_1).f0))).trans hx219_0; replace hx219_1 := (cell_far (p := ⟨gb218, 0, none⟩) (by first | (rw [add_block]; exact hn219_0) | (show (Addr.add _ _).block ≠ _; rw [add_block]; exact hn219_0) | exact hn219_0) (.int .i64 ((rd_T26 l0 x7_1).f0))).trans hx219_1; replace hx219_0 := (cell_far (p := ⟨gb218, 1, none⟩) (by first | (rw [add_block]; exact hn219_1) | (show (Addr.add _ _).block ≠ _; rw [add_block]; exact hn219_1) | exact hn219_1) (.int .i64 ((rd_T26 l0 x7_1).f1))).trans hx219_0; replace hx219_1 := (cell_far (p := ⟨gb218, 1, none⟩) (by first | (rw [add_block]; exact hn219_1) | (show (Addr.add _ _).block ≠ _; rw [add_block]; exact hn219_1) | exact hn219_1) (.int .i64 ((rd_T26 l0 x7_1).f1))).trans hx219_1; (try have hy219_0 := fun (n_ : Nat) => (show ((((w19.drewN n_).setCell ⟨gb218, 0, none⟩ (.int .i64 ((rd_T26 l0 x7_1).f0))).setCell ⟨gb218, 1, none⟩ (.int .i64 ((rd_T26 l0 x7_1).f1)))).cell? _ = some _ from hx219_0)); (try have hy219_1 := fun (n_ : Nat) => (show ((((w19.drewN n_).setCell ⟨gb218, 0, none⟩ (.int .i64 ((rd_T26 l0 x7_1).f0))).setCell ⟨gb218, 1, none⟩ (.int .i64 ((rd_T26 l0 x7_1).f1)))).cell? _ = some _ from hx219_1)); clear hn219_0; clear hn219_1; replace p219 := eq_true p219; replace q219 := eq_true q219)))
             go_ret
             exact ⟨by first | rfl | (simp [errW_none, errW_some] <;> rfl) | (simp only [← hji15]; first | rfl | (simp [errW_none, errW_some] <;> rfl)) | (simp [*, errW_none, errW_some] <;> rfl), (zB1 GE218.out HB.out)⟩
            ·rw [if_neg c18] at H
             have c18b0 : decide (((rd_T26 l0 x7_1).f0) ≤ ((rd_T26 l0 (ji15)).f1)) = false := decide_eq_false c18
             clear c18
             have H' := zM H
             clear H
             have p217 : 0 ≤ (x7_1 : Int) := zD
             have q217 : x7_1 < (l0.length : Int) := zD
             obtain ⟨ad217, e217, hx217_0, hx217_1⟩ := at_T26 HR0.out x7_1 p217 q217
             cases e217
             replace hx217_0 := (HB.out.cell (World.block_lt_of_cell? w _ hx217_0)).trans hx217_0
             replace hx217_1 := (HB.out.cell (World.block_lt_of_cell? w _ hx217_1)).trans hx217_1
             replace p217 := eq_true p217
             replace q217 := eq_true q217
             go_wp2_with (first | ((with_reducible refine gate_dst (N := 4) rfl ?_); refine box_event ?hg (N := 4) ?hd (cs := #[.int .i64 0, .int .i64 0]) (t := 26) ?hr ?_; (case hd => rfl); (case hg => rfl); (case hr => first | (go_simp; done) | (go_simp; rfl)); intro gb218 hg w21 hbox hb; have n0_ := zM (below_step (zB HB.out) hb); have n1_ := zM (hbox); have n2_ := zM ((by rw [hg]; exact (below_size (zB HB.out)) : w.heap.size ≤ gb218)); have n3_ := zM ((by rw [hg]; exact (below_size (zB HB.out)) : w.heap.size ≤ gb218)); clear HB; have HB := n0_; have BK218 := n1_; have GW218 := n2_; have GE218 := n3_; clear n0_ n1_ n2_ n3_; clear hb hbox hg; have hcz22_0 : w21.cell? ⟨gb218, 0, none⟩ = some (.int .i64 0) := (blk_cell BK218.out 0).trans rfl; have hcz22_1 : w21.cell? ⟨gb218, 1, none⟩ = some (.int .i64 0) := (blk_cell BK218.out 1).trans rfl; have hfz22_0 := blk_frozen BK218.out 0; have hfz22_1 := blk_frozen BK218.out 1; have p219 : 0 ≤ ((ji15) : Int) := zD; have q219 : (ji15) < (l0.length : Int) := zD; obtain ⟨ad219, e219, hx219_0, hx219_1⟩ := at_T26 HR0.out (ji15) p219 q219; obtain rfl : ad217 = ad219 := (by injection e219); have hn219_0 : ad217.block ≠ gb218 := Nat.ne_of_lt (Nat.lt_of_lt_of_le (by have := World.block_lt_of_cell? _ _ hx219_0; first | rwa [add_block] at this | exact this) GW218.out); have hn219_1 : ad217.block ≠ gb218 := Nat.ne_of_lt (Nat.lt_of_lt_of_le (by have := World.block_lt_of_cell? _ _ hx219_0; first | rwa [add_block] at this | exact this) GW218.out); replace hx219_0 := (HB.out.cell (World.block_lt_of_cell? w _ hx219_0)).trans hx219_0; replace hx219_1 := (HB.out.cell (World.block_lt_of_cell? w _ hx219_1)).trans hx219_1; replace hx219_0 := (cell_far (p := ⟨gb218, 0, none⟩) (by first | (rw [add_block]; exact hn219_0) | (show (Addr.add _ _).block ≠ _; rw [add_block]; exact hn219_0) | exact hn219_0) (.int .i64 ((rd_T26 l0 x7_1).f0))).trans hx219_0; replace hx219_1 := (cell_far (p := ⟨gb218, 0, none⟩) (by first | (rw [add_block]; exact hn219_0) | (show (Addr.add _ _).block ≠ _; rw [add_block]; exact hn219_0) | exact hn219_0) (.int .i64 ((rd_T26 l0 x7_1).f0))).trans hx219_1; replace hx219_0 := (cell_far (p := ⟨gb218, 1, none⟩) (by first | (rw [add_block]; exact hn219_1) | (show (Addr.add _ _).block ≠ _; rw [add_block]; exact hn219_1) | exact hn219_1) (.int .i64 ((rd_T26 l0 x7_1).f1))).trans hx219_0; replace hx219_1 := (cell_far (p := ⟨gb218, 1, none⟩) (by first | (rw [add_block]; exact hn219_1) | (show (Addr.add _ _).block ≠ _; rw [add_block]; exact hn219_1) | exact hn219_1) (.int .i64 ((rd_T26 l0 x7_1).f1))).trans hx219_1; (try have hy219_0 := fun (n_ : Nat) => (show ((((w21.drewN n_).setCell ⟨gb218, 0, none⟩ (.int .i64 ((rd_T26 l0 x7_1).f0))).setCell ⟨gb218, 1, none⟩ (.int .i64 ((rd_T26 l0 x7_1).f1)))).cell? _ = some _ from hx219_0)); (try have hy219_1 := fun (n_ : Nat) => (show ((((w21.drewN n_).setCell ⟨gb218, 0, none⟩ (.int .i64 ((rd_T26 l0 x7_1).f0))).setCell ⟨gb218, 1, none⟩ (.int .i64 ((rd_T26 l0 x7_1).f1)))).cell? _ = some _ from hx219_1)); clear hn219_0; clear hn219_1; replace p219 := eq_true p219; replace q219 := eq_true q219))
             repeat (go_quiet (first | ((with_reducible refine gate_dst (N := 4) rfl ?_); refine box_event ?hg (N := 4) ?hd (cs := #[.int .i64 0, .int .i64 0]) (t := 26) ?hr ?_; (case hd => rfl); (case hg => rfl); (case hr => first | (go_simp; done) | (go_simp; rfl)); intro gb218 hg w21 hbox hb; have n0_ := zM (below_step (zB HB.out) hb); have n1_ := zM (hbox); have n2_ := zM ((by rw [hg]; exact (below_size (zB HB.out)) : w.heap.size ≤ gb218)); have n3_ := zM ((by rw [hg]; exact (below_size (zB HB.out)) : w.heap.size ≤ gb218)); clear HB; have HB := n0_; have BK218 := n1_; have GW218 := n2_; have GE218 := n3_; clear n0_ n1_ n2_ n3_; clear hb hbox hg; have hcz22_0 : w21.cell? ⟨gb218, 0, none⟩ = some (.int .i64 0) := (blk_cell BK218.out 0).trans rfl; have hcz22_1 : w21.cell? ⟨gb218, 1, none⟩ = some (.int .i64 0) := (blk_cell BK218.out 1).trans rfl; have hfz22_0 := blk_frozen BK218.out 0; have hfz22_1 := blk_frozen BK218.out 1; have p219 : 0 ≤ ((ji15) : Int) := zD; have q219 : (ji15) < (l0.length : Int) := zD; obtain ⟨ad219, e219, hx219_0, hx219_1⟩ := at_T26 HR0.out (ji15) p219 q219; obtain rfl : ad217 = ad219 := (by injection e219); have hn219_0 : ad217.block ≠ gb218 := Nat.ne_of_lt (Nat.lt_of_lt_of_le (by have := World.block_lt_of_cell? _ _ hx219_0; first | rwa [add_block] at this | exact this) GW218.out); have hn219_1 : ad217.block ≠ gb218 := Nat.ne_of_lt (Nat.lt_of_lt_of_le (by have := World.block_lt_of_cell? _ _ hx219_0; first | rwa [add_block] at this | exact this) GW218.out); replace hx219_0 := (HB.out.cell (World.block_lt_of_cell? w _ hx219_0)).trans hx219_0; replace hx219_1 := (HB.out.cell (World.block_lt_of_cell? w _ hx219_1)).trans hx219_1; replace hx219_0 := (cell_far (p := ⟨gb218, 0, none⟩) (by first | (rw [add_block]; exact hn219_0) | (show (Addr.add _ _).block ≠ _; rw [add_block]; exact hn219_0) | exact hn219_0) (.int .i64 ((rd_T26 l0 x7_1).f0))).trans hx219_0; replace hx219_1 := (cell_far (p := ⟨gb218, 0, none⟩) (by first | (rw [add_block]; exact hn219_0) | (show (Addr.add _ _).block ≠ _; rw [add_block]; exact hn219_0) | exact hn219_0) (.int .i64 ((rd_T26 l0 x7_1).f0))).trans hx219_1; replace hx219_0 := (cell_far (p := ⟨gb218, 1, none⟩) (by first | (rw [add_block]; exact hn219_1) | (show (Addr.add _ _).block ≠ _; rw [add_block]; exact hn219_1) | exact hn219_1) (.int .i64 ((rd_T26 l0 x7_1).f1))).trans hx219_0; replace hx219_1 := (cell_far (p := ⟨gb218, 1, none⟩) (by first | (rw [add_block]; exact hn219_1) | (show (Addr.add _ _).block ≠ _; rw [add_block]; exact hn219_1) | exact hn219_1) (.int .i64 ((rd_T26 l0 x7_1).f1))).trans hx219_1; (try have hy219_0 := fun (n_ : Nat) => (show ((((w21.drewN n_).setCell ⟨gb218, 0, none⟩ (.int .i64 ((rd_T26 l0 x7_1).f0))).setCell ⟨gb218, 1, none⟩ (.int .i64 ((rd_T26 l0 x7_1).f1)))).cell? _ = some _ from hx219_0)); (try have hy219_1 := fun (n_ : Nat) => (show ((((w21.drewN n_).setCell ⟨gb218, 0, none⟩ (.int .i64 ((rd_T26 l0 x7_1).f0))).setCell ⟨gb218, 1, none⟩ (.int .i64 ((rd_T26 l0 x7_1).f1)))).cell? _ = some _ from hx219_1)); clear hn219_0; clear hn219_1; replace p219 := eq_true p219; replace q219 := eq_true q219)); try go_wp2_with (first | ((with_reducible refine gate_dst (N := 4) rfl ?_); refine box_event ?hg (N := 4) ?hd (cs := #[.int .i64 0, .int .i64 0]) (t := 26) ?hr ?_; (case hd => rfl); (case hg => rfl); (case hr => first | (go_simp; done) | (go_simp; rfl)); intro gb218 hg w21 hbox hb; have n0_ := zM (below_step (zB HB.out) hb); have n1_ := zM (hbox); have n2_ := zM ((by rw [hg]; exact (below_size (zB HB.out)) : w.heap.size ≤ gb218)); have n3_ := zM ((by rw [hg]; exact (below_size (zB HB.out)) : w.heap.size ≤ gb218)); clear HB; have HB := n0_; have BK218 := n1_; have GW218 := n2_; have GE218 := n3_; clear n0_ n1_ n2_ n3_; clear hb hbox hg; have hcz22_0 : w21.cell? ⟨gb218, 0, none⟩ = some (.int .i64 0) := (blk_cell BK218.out 0).trans rfl; have hcz22_1 : w21.cell? ⟨gb218, 1, none⟩ = some (.int .i64 0) := (blk_cell BK218.out 1).trans rfl; have hfz22_0 := blk_frozen BK218.out 0; have hfz22_1 := blk_frozen BK218.out 1; have p219 : 0 ≤ ((ji15) : Int) := zD; have q219 : (ji15) < (l0.length : Int) := zD; obtain ⟨ad219, e219, hx219_0, hx219_1⟩ := at_T26 HR0.out (ji15) p219 q219; obtain rfl : ad217 = ad219 := (by injection e219); have hn219_0 : ad217.block ≠ gb218 := Nat.ne_of_lt (Nat.lt_of_lt_of_le (by have := World.block_lt_of_cell? _ _ hx219_0; first | rwa [add_block] at this | exact this) GW218.out); have hn219_1 : ad217.block ≠ gb218 := Nat.ne_of_lt (Nat.lt_of_lt_of_le (by have := World.block_lt_of_cell? _ _ hx219_0; first | rwa [add_block] at this | exact this) GW218.out); replace hx219_0 := (HB.out.cell (World.block_lt_of_cell? w _ hx219_0)).trans hx219_0; replace hx219_1 := (HB.out.cell (World.block_lt_of_cell? w _ hx219_1)).trans hx219_1; replace hx219_0 := (cell_far (p := ⟨gb218, 0, none⟩) (by first | (rw [add_block]; exact hn219_0) | (show (Addr.add _ _).block ≠ _; rw [add_block]; exact hn219_0) | exact hn219_0) (.int .i64 ((rd_T26 l0 x7_1).f0))).trans hx219_0; replace hx219_1 := (cell_far (p := ⟨gb218, 0, none⟩) (by first | (rw [add_block]; exact hn219_0) | (show (Addr.add _ _).block ≠ _; rw [add_block]; exact hn219_0) | exact hn219_0) (.int .i64 ((rd_T26 l0 x7_1).f0))).trans hx219_1; replace hx219_0 := (cell_far (p := ⟨gb218, 1, none⟩) (by first | (rw [add_block]; exact hn219_1) | (show (Addr.add _ _).block ≠ _; rw [add_block]; exact hn219_1) | exact hn219_1) (.int .i64 ((rd_T26 l0 x7_1).f1))).trans hx219_0; replace hx219_1 := (cell_far (p := ⟨gb218, 1, none⟩) (by first | (rw [add_block]; exact hn219_1) | (show (Addr.add _ _).block ≠ _; rw [add_block]; exact hn219_1) | exact hn219_1) (.int .i64 ((rd_T26 l0 x7_1).f1))).trans hx219_1; (try have hy219_0 := fun (n_ : Nat) => (show ((((w21.drewN n_).setCell ⟨gb218, 0, none⟩ (.int .i64 ((rd_T26 l0 x7_1).f0))).setCell ⟨gb218, 1, none⟩ (.int .i64 ((rd_T26 l0 x7_1).f1)))).cell? _ = some _ from hx219_0)); (try have hy219_1 := fun (n_ : Nat) => (show ((((w21.drewN n_).setCell ⟨gb218, 0, none⟩ (.int .i64 ((rd_T26 l0 x7_1).f0))).setCell ⟨gb218, 1, none⟩ (.int .i64 ((rd_T26 l0 x7_1).f1)))).cell? _ = some _ from hx219_1)); clear hn219_0; clear hn219_1; replace p219 := eq_true p219; replace q219 := eq_true q219)))
             go_roundg k1
             case measure => have := HK1.out; omega
             case rel => exact ⟨(wrap64 (x7_1 + 1)), zS, H', ⟨by have := HK1.out; omega⟩, ⟨(zB1 GE218.out HB.out)⟩⟩
           ·rw [if_neg c17] at H
            exact absurd H (by simp)
          ·rw [if_neg c16] at H
           exact absurd H (by simp)
         ·rw [if_neg c14] at H
          have c14b0 : decide (0 < x7_1) = false := decide_eq_false c14
          clear c14
          have H' := zM H
          clear H
          have p217 : 0 ≤ (x7_1 : Int) := zD
          have q217 : x7_1 < (l0.length : Int) := zD
          obtain ⟨ad217, e217, hx217_0, hx217_1⟩ := at_T26 HR0.out x7_1 p217 q217
          cases e217
          replace hx217_0 := (HB.out.cell (World.block_lt_of_cell? w _ hx217_0)).trans hx217_0
          replace hx217_1 := (HB.out.cell (World.block_lt_of_cell? w _ hx217_1)).trans hx217_1
          replace p217 := eq_true p217
          replace q217 := eq_true q217
          go_wp2_with (first | ((with_reducible refine gate_dst (N := 4) rfl ?_); refine box_event ?hg (N := 4) ?hd (cs := #[.int .i64 0, .int .i64 0]) (t := 26) ?hr ?_; (case hd => rfl); (case hg => rfl); (case hr => first | (go_simp; done) | (go_simp; rfl)); intro gb218 hg w23 hbox hb; have n0_ := zM (below_step (zB HB.out) hb); have n1_ := zM (hbox); have n2_ := zM ((by rw [hg]; exact (below_size (zB HB.out)) : w.heap.size ≤ gb218)); have n3_ := zM ((by rw [hg]; exact (below_size (zB HB.out)) : w.heap.size ≤ gb218)); clear HB; have HB := n0_; have BK218 := n1_; have GW218 := n2_; have GE218 := n3_; clear n0_ n1_ n2_ n3_; clear hb hbox hg; have hcz24_0 : w23.cell? ⟨gb218, 0, none⟩ = some (.int .i64 0) := (blk_cell BK218.out 0).trans rfl; have hcz24_1 : w23.cell? ⟨gb218, 1, none⟩ = some (.int .i64 0) := (blk_cell BK218.out 1).trans rfl; have hfz24_0 := blk_frozen BK218.out 0; have hfz24_1 := blk_frozen BK218.out 1))
          repeat (go_quiet (first | ((with_reducible refine gate_dst (N := 4) rfl ?_); refine box_event ?hg (N := 4) ?hd (cs := #[.int .i64 0, .int .i64 0]) (t := 26) ?hr ?_; (case hd => rfl); (case hg => rfl); (case hr => first | (go_simp; done) | (go_simp; rfl)); intro gb218 hg w23 hbox hb; have n0_ := zM (below_step (zB HB.out) hb); have n1_ := zM (hbox); have n2_ := zM ((by rw [hg]; exact (below_size (zB HB.out)) : w.heap.size ≤ gb218)); have n3_ := zM ((by rw [hg]; exact (below_size (zB HB.out)) : w.heap.size ≤ gb218)); clear HB; have HB := n0_; have BK218 := n1_; have GW218 := n2_; have GE218 := n3_; clear n0_ n1_ n2_ n3_; clear hb hbox hg; have hcz24_0 : w23.cell? ⟨gb218, 0, none⟩ = some (.int .i64 0) := (blk_cell BK218.out 0).trans rfl; have hcz24_1 : w23.cell? ⟨gb218, 1, none⟩ = some (.int .i64 0) := (blk_cell BK218.out 1).trans rfl; have hfz24_0 := blk_frozen BK218.out 0; have hfz24_1 := blk_frozen BK218.out 1)); try go_wp2_with (first | ((with_reducible refine gate_dst (N := 4) rfl ?_); refine box_event ?hg (N := 4) ?hd (cs := #[.int .i64 0, .int .i64 0]) (t := 26) ?hr ?_; (case hd => rfl); (case hg => rfl); (case hr => first | (go_simp; done) | (go_simp; rfl)); intro gb218 hg w23 hbox hb; have n0_ := zM (below_step (zB HB.out) hb); have n1_ := zM (hbox); have n2_ := zM ((by rw [hg]; exact (below_size (zB HB.out)) : w.heap.size ≤ gb218)); have n3_ := zM ((by rw [hg]; exact (below_size (zB HB.out)) : w.heap.size ≤ gb218)); clear HB; have HB := n0_; have BK218 := n1_; have GW218 := n2_; have GE218 := n3_; clear n0_ n1_ n2_ n3_; clear hb hbox hg; have hcz24_0 : w23.cell? ⟨gb218, 0, none⟩ = some (.int .i64 0) := (blk_cell BK218.out 0).trans rfl; have hcz24_1 : w23.cell? ⟨gb218, 1, none⟩ = some (.int .i64 0) := (blk_cell BK218.out 1).trans rfl; have hfz24_0 := blk_frozen BK218.out 0; have hfz24_1 := blk_frozen BK218.out 1)))
          go_roundg k1
          case measure => have := HK1.out; omega
          case rel => exact ⟨(wrap64 (x7_1 + 1)), zS, H', ⟨by have := HK1.out; omega⟩, ⟨(zB1 GE218.out HB.out)⟩⟩
     ·rw [if_neg c4] at H
      exact absurd H (by simp)
    ·rw [if_neg c3] at H
     exact absurd H (by simp)
   ·rw [if_neg c2] at H
    have c2b0 : decide (x7_1 < (l0.length : Int)) = false := decide_eq_false c2
    clear c2
    obtain rfl := Option.some.inj H
    go_wp2
    repeat (go_quiet (fail); try go_wp2)
    go_ret
    exact ⟨zE, (zB HB.out)⟩

end Go.Proofs.Yteahdfibipalkaa.G

namespace Go.Proofs.Yteahdfibipalkaa.G
open Go.RowKit Go.Proofs.YteahdfibipalkaaW.PrintWords Go.Proofs.YteahdfibipalkaaW.PrintLast Go.Proofs.YteahdfibipalkaaW.PrintMore
attribute [local go_sem] max2_int min2_int max_two min_two max_three min_three max_four min_four   -- for this text's walks alone
set_option linter.unusedVariables false
set_option linter.unusedSimpArgs false

/-! ### impl_Span_38: function 38 -/
set_option maxHeartbeats 8000000 in
set_option maxRecDepth 100000 in
theorem impl_Span_38.calls (A0 : Option Addr) (c0 : Nat) (l0 : List (S26)) (r : List (S26)) (w : World) (hr0 : Kd.C k26 w A0 l0.length l0) (hc0 : l0.length ≤ c0) (h : impl_Span_38.f l0 = some r) :
  Calls Try.prog 38 #[.slice A0 l0.length c0] w fun e w' => ∃ v0_ : Value, e = .returned (v0_) ∧ Kd.R k26 26 w' w.heap.size (fun _ => True) v0_ r ∧ Below w.heap.size w w' := by
 have q_ : ∀ (w : World) (a : Option Addr) (n c n' c' : Nat), (binOp .eql 24 (.slice a n c) (.slice none n' c')).run Try.prog w = .ok (.bool a.isNone) w := fun w a n c n' c' => Lib.run_eql_slice_nil w _ _ a n c n' c' Try.underlying24
 by_cases hA : A0 = none
 ·subst hA
  obtain rfl : l0 = [] := by
   rcases l0 with _ | ⟨x, t⟩
   ·rfl
   ·obtain ⟨ad, e, _⟩ := hr0.2.2 (by simp)
    cases e
  obtain rfl : r = [] := by simpa [impl_Span_38.f] using h.symm
  clear hr0 hc0 h
  go_enter Try.func38, Try.ntmps38
  go_wp2
  go_ret
  exact ⟨_, rfl, Kd.R_nil _ _ _ _ _, Below.refl _ _⟩
 have hA' : A0.isNone = false := by cases A0 <;> simp_all
 clear hA
 have HR0 := zM hr0
 have HC0 := zM hc0
 clear hr0 hc0
 have HB := zM (Below.refl w.heap.size w)
 have H : ((some (([] : List (S26)) : List (S26))).bind fun y220 => (if y220.length + l0.length < 8796093022208 then (some (y220 ++ l0)) else (none))) = some r := h
 clear h
 obtain ⟨y220, hy220⟩ : ∃ y_ : List (S26), y_ = (([] : List (S26))) := ⟨_, rfl⟩
 replace H : (if y220.length + l0.length < 8796093022208 then (some (y220 ++ l0)) else (none)) = some r := zH hy220 H
 have Ny220 := zM hy220
 clear hy220
 by_cases c2 : y220.length + l0.length < 8796093022208
 ·rw [if_pos c2] at H
  have LMc2 := zM c2
  clear c2
  obtain ⟨y223, hy223⟩ : ∃ y_ : List (S26), y_ = (y220 ++ l0) := ⟨_, rfl⟩
  replace H : (some y223) = some r := zH hy223 H
  have Ny223 := zM hy223
  clear hy223
  obtain rfl := Option.some.inj H
  go_enter Try.func38, Try.ntmps38
  go_wp2_with (first | ((with_reducible refine gate_dst (N := 5) rfl ?_); refine Kd.R_lit k26 _ 26 ?hg (N := 5) ?hd (xs := ([] : List (S26))) (inner := []) (ok := fun _ => True) (okp := fun _ => True) ?hr ?hp (fun _ hk => hk) trivial (Below.refl _ _) (Nat.le_refl _) (by simp) ?_; (case hd => rfl); (case hg => rfl); (case hr => first | (go_simp; done) | (go_simp; rfl)); (case hp => exact (Reps.none _ _)); intro v221 w3 ho4 hb hg_ hnew_; clear hg_ hnew_; (first | rw [← Ny220.out] at ho4 | (simp only [Int.reduceToNat] at ho4; rw [← Ny220.out] at ho4)); have n0_ := zM (Kd.R_lower ho4 (below_size (zB HB.out))); have n1_ := zM (below_step (zB HB.out) hb); clear HB; have HO222 := n0_; have HB := n1_; clear n0_ n1_; clear hb ho4) | ((with_reducible refine gate_builtin (b := .append) (xs := #[.tmp 5, .tmp 6]) rfl ?_); at_builtin; refine Kd.R_append_rows k26 (w0 := w) w.heap.size rfl (.tmp 5) (.tmp 6) 24 26 (.agg #[(.int .i64 0), (.int .i64 0)]) 16 rfl Try.underlying24 info26 rfl (by decide) (by omega) v221 y220 l0 _ _ _ (fun _ => True) (fun _ => False) rfl rfl ?aO ?aR (fun _ _ h => h) (fun _ h => h.elim) ?aF ?aB ?aS ?aL ?_; (case aR => exact (zC (Kd.C_below HR0.out HB.out))); (case aB => exact (zB HB.out)); (case aF => exact (fun _ _ => trivial)); (case aO => exact (zR HO222.out)); (case aS => exact (below_size (zB HB.out))); (case aL => have := LMc2.out; omega); intro v224 w5 ho hb hg hat; rw [← Ny223.out] at ho; have n0_ := zM (hb); have n1_ := zM (ho); clear HB; clear HO222; have HB := n0_; have HO225 := n1_; clear n0_ n1_; clear ho hb hg hat))
  go_ret
  exact ⟨_, zE, (zR HO225.out), (zB HB.out)⟩
 ·rw [if_neg c2] at H
  exact absurd H (by simp)

end Go.Proofs.Yteahdfibipalkaa.G

namespace Go.Proofs.Yteahdfibipalkaa.G
open Go.RowKit Go.Proofs.YteahdfibipalkaaW.PrintWords Go.Proofs.YteahdfibipalkaaW.PrintLast Go.Proofs.YteahdfibipalkaaW.PrintMore
attribute [local go_sem] max2_int min2_int max_two min_two max_three min_three max_four min_four   -- for this text's walks alone
set_option linter.unusedVariables false
set_option linter.unusedSimpArgs false

/-! ### impl_AddSpan: function 8 -/
def impl_AddSpan.T5 : Bool × List (List Nat × List Nat) := (true, [([], []), ([], []), ([1], [1]), ([0, 2], [0, 2]), ([3], [3]), ([4], [4]), ([4], [4]), ([5, 6, 4], [4, 5, 6]), ([7, 4], [4, 7]), ([8, 4], [4, 8]), ([4], [4]), ([10, 4], [4, 10]), ([9, 11, 4], [4, 9, 11]), ([4, 12], [4, 12])])
def impl_AddSpan.B5 : List Nat := [0, 0, 2, 7, 15, 31, 31, 127, 255, 511, 31, 1055, 4095, 8191]
theorem impl_AddSpan.tab5 : rtab .any (opsOf Try.f8 5) = impl_AddSpan.T5 := by kernel_rfl
theorem impl_AddSpan.bits5 : waitsOk impl_AddSpan.T5.2 impl_AddSpan.B5 = true := by kernel_rfl
def impl_AddSpan.T8 : Bool × List (List Nat × List Nat) := (true, [([], []), ([], []), ([1], [1]), ([0, 2], [0, 2]), ([3], [3]), ([4], [4]), ([4], [4]), ([5, 6, 4], [4, 5, 6]), ([7, 4], [4, 7]), ([8, 4], [4, 8]), ([4], [4]), ([10, 4], [4, 10]), ([9, 11, 4], [4, 9, 11]), ([4, 12], [4, 12])])
def impl_AddSpan.B8 : List Nat := [0, 0, 2, 7, 15, 31, 31, 127, 255, 511, 31, 1055, 4095, 8191]
theorem impl_AddSpan.tab8 : rtab .any (opsOf Try.f8 8) = impl_AddSpan.T8 := by kernel_rfl
theorem impl_AddSpan.bits8 : waitsOk impl_AddSpan.T8.2 impl_AddSpan.B8 = true := by kernel_rfl
def impl_AddSpan.T10 : Bool × List (List Nat × List Nat) := (true, [([], []), ([0], [0]), ([], []), ([], []), ([2, 3], [2, 3]), ([4], [4]), ([5], [5]), ([1, 6], [1, 6]), ([], []), ([8], [8]), ([], []), ([], []), ([10, 11], [10, 11]), ([12], [12]), ([13], [13]), ([9, 14], [9, 14]), ([7, 15], [7, 15]), ([16, 0, 1, 2, 3, 4, 5, 6, 7, 8, 9, 10, 11, 12, 13, 14, 15, 16], [16])])
def impl_AddSpan.B10 : List Nat := [0, 1, 0, 0, 12, 28, 60, 127, 0, 256, 0, 0, 3072, 7168, 15360, 32512, 65535, 131071]
theorem impl_AddSpan.tab10 : rtab .any (opsOf Try.f8 10) = impl_AddSpan.T10 := by kernel_rfl
theorem impl_AddSpan.bits10 : waitsOk impl_AddSpan.T10.2 impl_AddSpan.B10 = true := by kernel_rfl
def impl_AddSpan.T11 : Bool × List (List Nat × List Nat) := (true, [([], []), ([], []), ([1], [1]), ([0, 2], [0, 2]), ([], []), ([], []), ([4, 5], [4, 5]), ([3, 6, 3], [3, 6]), ([7, 7, 0, 1, 2, 3, 4, 5, 6, 7], [7])])
def impl_AddSpan.B11 : List Nat := [0, 0, 2, 7, 0, 0, 48, 127, 255]
theorem impl_AddSpan.tab11 : rtab .any (opsOf Try.f8 11) = impl_AddSpan.T11 := by kernel_rfl
theorem impl_AddSpan.bits11 : waitsOk impl_AddSpan.T11.2 impl_AddSpan.B11 = true := by kernel_rfl
set_option maxHeartbeats 8000000 in
set_option maxRecDepth 100000 in
theorem impl_AddSpan.calls (k : Nat) (A0 : Option Addr) (c0 : Nat) (l0 : List (S26)) (a1_0 : Int) (a1_1 : Int) (r : List (S26)) (w : World) (hr0 : Kd.C k26 w A0 l0.length l0) (hc0 : l0.length ≤ c0) (h : impl_AddSpan.f k l0 a1_0 a1_1 = some r) :
  Calls Try.prog 8 #[.slice A0 l0.length c0, .agg #[.int .i64 a1_0, .int .i64 a1_1]] w fun e w' => ∃ v0_ : Value, e = .returned (v0_) ∧ Kd.R k26 26 w' w.heap.size (fun _ => True) v0_ r ∧ Below w.heap.size w w' := by
 have hu26 := Try.underlying26
 have HR0 := zM hr0
 have HC0 := zM hc0
 clear hr0 hc0
 have HB := zM (Below.refl w.heap.size w)
 have H : ((impl_IsSpanSet.f k l0).bind fun t227 => (if t227 = true then (if a1_0 ≥ a1_1 then (impl_AddSpan.j0 k l0 true a1_0 a1_1) else (if a1_0 < 0 then (impl_AddSpan.j0 k l0 true a1_0 a1_1) else (impl_AddSpan.j0 k l0 (decide (a1_1 > 1000000000000)) a1_0 a1_1))) else (impl_AddSpan.j0 k l0 true a1_0 a1_1))) = some r := h
 clear h
 have HC3 := zM H
 clear H
 go_enter Try.func8, Try.ntmps8
 go_upto_region 1 with (first | ((with_reducible refine gate_dst (N := 3) rfl ?_); refine box_event ?hg (N := 3) ?hd (cs := #[.int .i64 a1_0, .int .i64 a1_1]) (t := 26) ?hr ?_; (case hd => rfl); (case hg => rfl); (case hr => first | (go_simp; done) | (go_simp; rfl)); intro gb226 hg w4 hbox hb; have n0_ := zM (below_step (zB HB.out) hb); have n1_ := zM (hbox); have n2_ := zM ((by rw [hg]; exact (below_size (zB HB.out)) : w.heap.size ≤ gb226)); have n3_ := zM ((by rw [hg]; exact (below_size (zB HB.out)) : w.heap.size ≤ gb226)); clear HB; have HB := n0_; have BK226 := n1_; have GW226 := n2_; have GE226 := n3_; clear n0_ n1_ n2_ n3_; clear hb hbox hg))
 (try simp only [Act.put, List.setIfInBounds_toArray, List.set_cons_zero, List.set_cons_succ])
 go_cut [26] (fun v26 wc => ∃ (kq : Nat) (x26_2 : Bool), v26 = .bool x26_2 ∧ Aside0 (impl_AddSpan.j0 kq l0 x26_2 a1_0 a1_1 = some r) ∧ Aside0 (kq ≤ k) ∧ Aside0 (wc.heap[gb226]? = some (.cells #[.int .i64 a1_0, .int .i64 a1_1] 26 (0, 0))) ∧ Aside0 (Below w.heap.size w wc))
 case first =>
  have H := HC3.out
  clear HC3
  replace H := Option.bind_eq_some_iff.mp H
  obtain ⟨t227, A50, H⟩ := H
  try dsimp only at H
  have A5 := zM A50
  clear A50
  by_cases c6 : t227 = true
  ·subst c6
   rw [if_pos rfl] at H
   by_cases c7 : a1_0 ≥ a1_1
   ·rw [if_pos c7] at H
    have c7b0 : decide (a1_1 ≤ a1_0) = true := decide_eq_true c7
    clear c7
    (first | rw [c7b0] | (simp only [i64_w, i32_w]; rw [c7b0]) | skip)
    have H' := zM H
    clear H
    go_wp2_with (first | ((with_reducible refine gate_callee (f := 16) rfl ?_); refine zG (some 8) Try.func16 #[.slice A0 l0.length c0] ?_; (with_reducible refine (impl_IsSpanSet.calls k _ _ l0 true _ ?side1 ?side2 A5.out).mono ?_); (case side1 => exact (zC (Kd.C_below HR0.out HB.out))); (case side2 => exact HC0.out); rintro e w8 ⟨rfl, hb⟩; refine ⟨_, rfl, ?_⟩; have n0_ := zM (blk_below (g := gb226) (o := .cells #[.int .i64 a1_0, .int .i64 a1_1] 26 (0, 0)) (zP BK226.out) hb); have n1_ := zM (below_step (zB1 GE226.out HB.out) hb); clear BK226; clear HB; have BK226 := n0_; have HB := n1_; clear n0_ n1_; (try clear hb); (try clear hb2); (try clear hk); (try clear hi); have hcz9_0 : w8.cell? ⟨gb226, 0, none⟩ = some (.int .i64 a1_0) := (blk_cell BK226.out 0).trans rfl; have hcz9_1 : w8.cell? ⟨gb226, 1, none⟩ = some (.int .i64 a1_1) := (blk_cell BK226.out 1).trans rfl; have hfz9_0 := blk_frozen BK226.out 0; have hfz9_1 := blk_frozen BK226.out 1))
    go_meet
    case rel => exact ⟨_, (true), zS, H', ⟨by first | omega | exact Nat.le_refl _⟩, ⟨(zP BK226.out)⟩, ⟨(zB1 GE226.out HB.out)⟩⟩
   ·rw [if_neg c7] at H
    have c7b0 : decide (a1_1 ≤ a1_0) = false := decide_eq_false c7
    clear c7
    (first | rw [c7b0] | (simp only [i64_w, i32_w]; rw [c7b0]) | skip)
    by_cases c10 : a1_0 < 0
    ·rw [if_pos c10] at H
     have c10b0 : decide (a1_0 < 0) = true := decide_eq_true c10
     clear c10
     have H' := zM H
     clear H
     go_wp2_with (first | ((with_reducible refine gate_callee (f := 16) rfl ?_); refine zG (some 8) Try.func16 #[.slice A0 l0.length c0] ?_; (with_reducible refine (impl_IsSpanSet.calls k _ _ l0 true _ ?side1 ?side2 A5.out).mono ?_); (case side1 => exact (zC (Kd.C_below HR0.out HB.out))); (case side2 => exact HC0.out); rintro e w11 ⟨rfl, hb⟩; refine ⟨_, rfl, ?_⟩; have n0_ := zM (blk_below (g := gb226) (o := .cells #[.int .i64 a1_0, .int .i64 a1_1] 26 (0, 0)) (zP BK226.out) hb); have n1_ := zM (below_step (zB1 GE226.out HB.out) hb); clear BK226; clear HB; have BK226 := n0_; have HB := n1_; clear n0_ n1_; (try clear hb); (try clear hb2); (try clear hk); (try clear hi); have hcz12_0 : w11.cell? ⟨gb226, 0, none⟩ = some (.int .i64 a1_0) := (blk_cell BK226.out 0).trans rfl; have hcz12_1 : w11.cell? ⟨gb226, 1, none⟩ = some (.int .i64 a1_1) := (blk_cell BK226.out 1).trans rfl; have hfz12_0 := blk_frozen BK226.out 0; have hfz12_1 := blk_frozen BK226.out 1))
     go_meet
     case rel => exact ⟨_, (true), zS, H', ⟨by first | omega | exact Nat.le_refl _⟩, ⟨(zP BK226.out)⟩, ⟨(zB1 GE226.out HB.out)⟩⟩
    ·rw [if_neg c10] at H
     have c10b0 : decide (a1_0 < 0) = false := decide_eq_false c10
     clear c10
     have H' := zM H
     clear H
     go_wp2_with (first | ((with_reducible refine gate_callee (f := 16) rfl ?_); refine zG (some 8) Try.func16 #[.slice A0 l0.length c0] ?_; (with_reducible refine (impl_IsSpanSet.calls k _ _ l0 true _ ?side1 ?side2 A5.out).mono ?_); (case side1 => exact (zC (Kd.C_below HR0.out HB.out))); (case side2 => exact HC0.out); rintro e w13 ⟨rfl, hb⟩; refine ⟨_, rfl, ?_⟩; have n0_ := zM (blk_below (g := gb226) (o := .cells #[.int .i64 a1_0, .int .i64 a1_1] 26 (0, 0)) (zP BK226.out) hb); have n1_ := zM (below_step (zB1 GE226.out HB.out) hb); clear BK226; clear HB; have BK226 := n0_; have HB := n1_; clear n0_ n1_; (try clear hb); (try clear hb2); (try clear hk); (try clear hi); have hcz14_0 : w13.cell? ⟨gb226, 0, none⟩ = some (.int .i64 a1_0) := (blk_cell BK226.out 0).trans rfl; have hcz14_1 : w13.cell? ⟨gb226, 1, none⟩ = some (.int .i64 a1_1) := (blk_cell BK226.out 1).trans rfl; have hfz14_0 := blk_frozen BK226.out 0; have hfz14_1 := blk_frozen BK226.out 1))
     go_meet
     case rel => exact ⟨_, (decide (a1_1 > 1000000000000)), zS, H', ⟨by first | omega | exact Nat.le_refl _⟩, ⟨(zP BK226.out)⟩, ⟨(zB1 GE226.out HB.out)⟩⟩
  ·replace c6 := Bool.eq_false_iff.mpr c6
   subst c6
   rw [if_neg (show ¬ (false = true) by decide)] at H
   have H' := zM H
   clear H
   go_wp2_with (first | ((with_reducible refine gate_callee (f := 16) rfl ?_); refine zG (some 8) Try.func16 #[.slice A0 l0.length c0] ?_; (with_reducible refine (impl_IsSpanSet.calls k _ _ l0 false _ ?side1 ?side2 A5.out).mono ?_); (case side1 => exact (zC (Kd.C_below HR0.out HB.out))); (case side2 => exact HC0.out); rintro e w15 ⟨rfl, hb⟩; refine ⟨_, rfl, ?_⟩; have n0_ := zM (blk_below (g := gb226) (o := .cells #[.int .i64 a1_0, .int .i64 a1_1] 26 (0, 0)) (zP BK226.out) hb); have n1_ := zM (below_step (zB1 GE226.out HB.out) hb); clear BK226; clear HB; have BK226 := n0_; have HB := n1_; clear n0_ n1_; (try clear hb); (try clear hb2); (try clear hk); (try clear hi)))
   go_meet
   case rel => exact ⟨_, (true), zS, H', ⟨by first | omega | exact Nat.le_refl _⟩, ⟨(zP BK226.out)⟩, ⟨(zB1 GE226.out HB.out)⟩⟩
 case rest =>
  clear HC3
  try clear c1
  try clear p2
  try clear c6
  try clear c7
  try clear c7b0
  try clear c8
  try clear c10
  try clear c10b0
  try clear hcz12_0
  try clear hcz12_1
  try clear hcz14_0
  try clear hcz14_1
  try clear hcz9_0
  try clear hcz9_1
  try clear hfz12_0
  try clear hfz12_1
  try clear hfz14_0
  try clear hfz14_1
  try clear hfz9_0
  try clear hfz9_1
  obtain ⟨kq, x26_2, rfl, HA, HJ2, BK226, HB⟩ := hcut
  cases kq with
  | zero => exact absurd HA.out (by simp [impl_AddSpan.j0])
  | succ kj2 =>
   have H := HA.out
   clear HA
   simp only [impl_AddSpan.j0] at H
   by_cases c16 : x26_2 = true
   ·subst c16
    rw [if_pos rfl] at H
    replace H := Option.bind_eq_some_iff.mp H
    obtain ⟨t228, A170, H⟩ := H
    try dsimp only at H
    have A17 := zM A170
    clear A170
    obtain rfl := Option.some.inj H
    go_wp2_with (first | ((with_reducible refine gate_callee (f := 38) rfl ?_); refine zG (some 28) Try.func38 #[.slice A0 l0.length c0] ?_; (with_reducible refine (impl_Span_38.calls _ _ l0 t228 _ ?side1 ?side2 A17.out).mono ?_); (case side1 => exact (zC (Kd.C_below HR0.out HB.out))); (case side2 => exact HC0.out); rintro e w18 ⟨v229, rfl, ho0, hb⟩; refine ⟨_, rfl, ?_⟩; have n0_ := zM (Kd.R_lower (Kd.R_newB ho0 (g := gb226) (o := .cells #[.int .i64 a1_0, .int .i64 a1_1] 26 (0, 0)) (zP BK226.out)) (below_size (zB1 GE226.out HB.out))); have n1_ := zM (blk_below (g := gb226) (o := .cells #[.int .i64 a1_0, .int .i64 a1_1] 26 (0, 0)) (zP BK226.out) hb); have n2_ := zM (below_step (zB1 GE226.out HB.out) hb); clear BK226; clear HB; have HO230 := n0_; have BK226 := n1_; have HB := n2_; clear n0_ n1_ n2_; (try clear hb); (try clear hb2); (try clear hk); (try clear hi); (try clear ho0)))
    go_ret
    exact ⟨_, zE, (zRm HO230.out (fun _ hk => trivial)), (zB1 GE226.out HB.out)⟩
   ·replace c16 := Bool.eq_false_iff.mpr c16
    subst c16
    rw [if_neg (show ¬ (false = true) by decide)] at H
    obtain ⟨y231, hy231⟩ : ∃ y_ : List (S26), y_ = (([] : List (S26))) := ⟨_, rfl⟩
    replace H : (impl_AddSpan.l0 kj2 l0 y231 0 a1_0 a1_1) = some r := zH hy231 H
    have Ny231 := zM hy231
    clear hy231
    have HC19 := zM H
    clear H
    go_upto_block 0 with (first | ((with_reducible refine gate_dst (N := 29) rfl ?_); refine Kd.R_lit k26 _ 26 ?hg (N := 29) ?hd (xs := ([] : List (S26))) (inner := []) (ok := fun _ => True) (okp := fun _ => True) ?hr ?hp (fun _ hk => hk) trivial (Below.refl _ _) (Nat.le_refl _) (by simp) ?_; (case hd => rfl); (case hg => rfl); (case hr => first | (go_simp; done) | (go_simp; rfl)); (case hp => exact (Reps.none _ _)); intro v232 w20 ho21 hb hg_ hnew_; clear hg_ hnew_; (first | rw [← Ny231.out] at ho21 | (simp only [Int.reduceToNat] at ho21; rw [← Ny231.out] at ho21)); have n0_ := zM (Kd.R_lower (Kd.R_newB ho21 (g := gb226) (o := .cells #[.int .i64 a1_0, .int .i64 a1_1] 26 (0, 0)) (zP BK226.out)) (below_size (zB1 GE226.out HB.out))); have n1_ := zM (blk_below (g := gb226) (o := .cells #[.int .i64 a1_0, .int .i64 a1_1] 26 (0, 0)) (zP BK226.out) hb); have n2_ := zM (below_step (zB1 GE226.out HB.out) hb); clear BK226; clear HB; have HO233 := n0_; have BK226 := n1_; have HB := n2_; clear n0_ n1_ n2_; clear hb ho21))
    (try simp only [Act.put, List.setIfInBounds_toArray, List.set_cons_zero, List.set_cons_succ])
    go_cut [5, 6] (fun v5 v6 wc => ∃ (kq : Nat) (x5_18 : List (S26)) (x6_18 : Int), v6 = .int .i64 x6_18 ∧ Aside0 (impl_AddSpan.j2 kq l0 x5_18 x6_18 a1_0 a1_1 = some r) ∧ Aside0 (kq ≤ kj2) ∧ Aside0 (Kd.R k26 26 wc w.heap.size (fun k_ => k_ ≠ gb226) v5 x5_18) ∧ Aside0 (wc.heap[gb226]? = some (.cells #[.int .i64 a1_0, .int .i64 a1_1] 26 (0, 0))) ∧ Aside0 (Below w.heap.size w wc))
    case first =>
     have H := HC19.out
     clear HC19
     have H' := zM H
     clear H
     go_wp2
     go_loopg [5, 6] kj2 (fun kq v5 v6 w' => ∃ (x5_2 : List (S26)) (x6_2 : Int), v6 = .int .i64 x6_2 ∧ Aside0 (impl_AddSpan.l0 kq l0 x5_2 x6_2 a1_0 a1_1 = some r) ∧ Aside0 (kq ≤ kj2) ∧ Aside0 (Kd.R k26 26 w' w.heap.size (fun k_ => k_ ≠ gb226) v5 x5_2) ∧ Aside0 (w'.heap[gb226]? = some (.cells #[.int .i64 a1_0, .int .i64 a1_1] 26 (0, 0))) ∧ Aside0 (Below w.heap.size w w'))
     case atStart => exact ⟨(y231), (0), zS, H', ⟨Nat.le_refl _⟩, ⟨(zRm HO233.out (fun _ hk => hk.2))⟩, ⟨(zP BK226.out)⟩, ⟨(zB1 GE226.out HB.out)⟩⟩
     case round =>
      clear H'
      try clear c1
      try clear p2
      try clear c3
      try clear c6
      try clear c7
      try clear c7b0
      try clear c8
      try clear c10
      try clear c10b0
      try clear c16
      try clear hcz12_0
      try clear hcz12_1
      try clear hcz14_0
      try clear hcz14_1
      try clear hcz9_0
      try clear hcz9_1
      try clear hfz12_0
      try clear hfz12_1
      try clear hfz14_0
      try clear hfz14_1
      try clear hfz9_0
      try clear hfz9_1
      try clear p2
      obtain ⟨x5_2, x6_2, rfl, HA, HK2, HO_5, BK226, HB⟩ := hrel
      cases gk with
      | zero => exact absurd HA.out (by simp [impl_AddSpan.l0])
      | succ k2 =>
       have H := HA.out
       clear HA
       simp only [impl_AddSpan.l0] at H
       by_cases c22 : x6_2 < (l0.length : Int)
       ·rw [if_pos c22] at H
        have c22b0 : decide (x6_2 < (l0.length : Int)) = true := decide_eq_true c22
        clear c22
        (first | rw [c22b0] | (simp only [i64_w, i32_w]; rw [c22b0]) | skip)
        by_cases c23 : 0 ≤ x6_2
        ·rw [if_pos c23] at H
         have c23b0 : decide (0 ≤ x6_2) = true := decide_eq_true c23
         clear c23
         by_cases c24 : ((rd_T26 l0 x6_2).f1) < a1_0
         ·rw [if_pos c24] at H
          have c24b0 : decide (((rd_T26 l0 x6_2).f1) < a1_0) = true := decide_eq_true c24
          clear c24
          by_cases c25 : x5_2.length < 8796093022208
          ·rw [if_pos c25] at H
           have LMc25 := zM c25
           clear c25
           obtain ⟨y236, hy236⟩ : ∃ y_ : List (S26), y_ = (x5_2 ++ [(⟨(rd_T26 l0 x6_2).f0, (rd_T26 l0 x6_2).f1⟩ : S26)]) := ⟨_, rfl⟩
           replace H : (impl_AddSpan.l0 k2 l0 y236 (wrap64 (x6_2 + 1)) a1_0 a1_1) = some r := zH hy236 H
           have Ny236 := zM hy236
           clear hy236
           have H' := zM H
           clear H
           try go_wp2
           have n0_ := zM (Kd.R_drew HO_5.out)
           have n1_ := zM (blk_drew BK226.out)
           have n2_ := zM (below_drew1 HB.out)
           clear HO_5
           clear BK226
           clear HB
           have HO_5 := n0_
           have BK226 := n1_
           have HB := n2_
           clear n0_ n1_ n2_
           have p234 : 0 ≤ (x6_2 : Int) := zD
           have q234 : x6_2 < (l0.length : Int) := zD
           obtain ⟨ad234, e234, hx234_0, hx234_1⟩ := at_T26 HR0.out x6_2 p234 q234
           have hw234_1 := hx234_1
           have hw234_0 := hx234_0
           cases e234
           replace hx234_0 := (HB.out.cell (World.block_lt_of_cell? w _ hx234_0)).trans hx234_0
           replace hx234_1 := (HB.out.cell (World.block_lt_of_cell? w _ hx234_1)).trans hx234_1
           replace p234 := eq_true p234
           replace q234 := eq_true q234
           refine start_ (n := 14) (S := fun w' => w'.cell? ⟨gb226, 0, none⟩ = some (.int .i64 a1_0) ∧ w'.cell? ⟨gb226, 1, none⟩ = some (.int .i64 a1_1) ∧ w'.cell? (ad234.add ((x6_2).toNat * 2)) = some (.int .i64 ((rd_T26 l0 x6_2).f0)) ∧ w'.cell? ⟨(ad234.add ((x6_2).toNat * 2)).block, (ad234.add ((x6_2).toNat * 2)).off + 1, none⟩ = some (.int .i64 ((rd_T26 l0 x6_2).f1))) (ds := []) (ba 14 0).toArray (by kernel_rfl) rfl rfl ⟨(blk_cell BK226.out 0).trans rfl, (blk_cell BK226.out 1).trans rfl, ((HB.out.cell (World.block_lt_of_cell? w _ hw234_0)).trans hw234_0), ((HB.out.cell (World.block_lt_of_cell? w _ hw234_1)).trans hw234_1)⟩ (fun hHeld => ?_); refine with_tabW impl_AddSpan.tab5 impl_AddSpan.bits5 (fun HT_ HW_ => ?_)
           generalize wr.drew = w26 at HO_5 BK226 HB hx234_0 hx234_1 hHeld ⊢
           refine zq 0 (some 30) (ba 14 1).toArray HT_ ?_
           refine zq 1 (some 31) (ba 14 3).toArray HT_ ?_
           refine zq 2 (some 32) (ba 14 7).toArray HT_ ?_
           refine zq 3 (some 33) (ba 14 15).toArray HT_ ?_
           refine zq 4 (some 34) (ba 14 31).toArray HT_ ?_
           refine zq 5 (some 35) (ba 14 63).toArray HT_ ?_
           refine zq 6 (some 36) (ba 14 127).toArray HT_ ?_
           refine zq 7 (some 37) (ba 14 255).toArray HT_ ?_
           refine zq 8 (some 38) (ba 14 511).toArray HT_ ?_
           refine zq 10 (some 40) (ba 14 1535).toArray HT_ ?_
           refine zt4 9 (some 39) (ba 14 2047).toArray HT_ HW_ hHeld ?_
           refine zt4 11 (some 41) (ba 14 4095).toArray HT_ HW_ hHeld ?_
           refine zq 12 (some 42) (ba 14 8191).toArray HT_ ?_
           refine zq 13 (some 43) (ba 14 16383).toArray HT_ ?_
           refine done_ (done_of HT_.out (by kernel_rfl)) ?_
           have p235 : 0 ≤ (x6_2 : Int) := zD
           have q235 : x6_2 < (l0.length : Int) := zD
           obtain ⟨ad235, e235, hx235_0, hx235_1⟩ := at_T26 HR0.out x6_2 p235 q235
           obtain rfl : ad234 = ad235 := (by injection e235)
           replace hx235_0 := (HB.out.cell (World.block_lt_of_cell? w _ hx235_0)).trans hx235_0
           replace hx235_1 := (HB.out.cell (World.block_lt_of_cell? w _ hx235_1)).trans hx235_1
           replace p235 := eq_true p235
           replace q235 := eq_true q235
           try go_wp2_with (first | ((with_reducible refine gate_builtin (b := .append) (xs := #[.tmp 46, .tmp 51]) rfl ?_); at_builtin; refine Kd.R_append k26 (w0 := w) w.heap.size rfl (.tmp 46) (.tmp 51) 24 26 (.agg #[(.int .i64 0), (.int .i64 0)]) 16 rfl Try.underlying24 info26 rfl (by decide) (by omega) u5 x5_2 (⟨(rd_T26 l0 x6_2).f0, (rd_T26 l0 x6_2).f1⟩ : S26) [.int .i64 ((rd_T26 l0 x6_2).f0), .int .i64 ((rd_T26 l0 x6_2).f1)] (fun k_ => k_ ≠ gb226) (fun _ => False) rfl rfl ?aP (fun _ hk => hk.elim) ?aF ?aO ?aB ?aS ?aL ?_; (case aP => exact k26_mkM _ _ _ (⟨(rd_T26 l0 x6_2).f0, (rd_T26 l0 x6_2).f1⟩ : S26)); (case aB => exact (zB1 GE226.out HB.out)); (case aF => exact (fun k_ hk => Kd.freshB (g := gb226) (o := .cells #[.int .i64 a1_0, .int .i64 a1_1] 26 (0, 0)) (zP BK226.out) k_ hk)); (case aO => exact (zR HO_5.out)); (case aS => exact (below_size (zB1 GE226.out HB.out))); (case aL => have := LMc25.out; omega); intro v237 w27 ho hb hg hat; rw [← Ny236.out] at ho; have n0_ := zM (blk_grown (g := gb226) (o := .cells #[.int .i64 a1_0, .int .i64 a1_1] 26 (0, 0)) (zP BK226.out) hg (Kd.R_away HO_5.out (fun _ hk => hk))); have n1_ := zM (hb); have n2_ := zM (ho); clear BK226; clear HB; clear HO_5; have BK226 := n0_; have HB := n1_; have HO238 := n2_; clear n0_ n1_ n2_; clear ho hb hg hat))
           go_roundg k2
           case measure => have := HJ2.out; have := HK2.out; omega
           case rel => exact ⟨(y236), (wrap64 (x6_2 + 1)), zS, H', ⟨by have := HJ2.out; have := HK2.out; omega⟩, ⟨(zR HO238.out)⟩, ⟨(zP BK226.out)⟩, ⟨(zB1 GE226.out HB.out)⟩⟩
          ·rw [if_neg c25] at H
           exact absurd H (by simp)
         ·rw [if_neg c24] at H
          have c24b0 : decide (((rd_T26 l0 x6_2).f1) < a1_0) = false := decide_eq_false c24
          clear c24
          have H' := zM H
          clear H
          try go_wp2
          have n0_ := zM (Kd.R_drew HO_5.out)
          have n1_ := zM (blk_drew BK226.out)
          have n2_ := zM (below_drew1 HB.out)
          clear HO_5
          clear BK226
          clear HB
          have HO_5 := n0_
          have BK226 := n1_
          have HB := n2_
          clear n0_ n1_ n2_
          have p234 : 0 ≤ (x6_2 : Int) := zD
          have q234 : x6_2 < (l0.length : Int) := zD
          obtain ⟨ad234, e234, hx234_0, hx234_1⟩ := at_T26 HR0.out x6_2 p234 q234
          have hw234_1 := hx234_1
          have hw234_0 := hx234_0
          cases e234
          replace hx234_0 := (HB.out.cell (World.block_lt_of_cell? w _ hx234_0)).trans hx234_0
          replace hx234_1 := (HB.out.cell (World.block_lt_of_cell? w _ hx234_1)).trans hx234_1
          replace p234 := eq_true p234
          replace q234 := eq_true q234
          refine start_ (n := 14) (S := fun w' => w'.cell? ⟨gb226, 0, none⟩ = some (.int .i64 a1_0) ∧ w'.cell? ⟨gb226, 1, none⟩ = some (.int .i64 a1_1) ∧ w'.cell? (ad234.add ((x6_2).toNat * 2)) = some (.int .i64 ((rd_T26 l0 x6_2).f0)) ∧ w'.cell? ⟨(ad234.add ((x6_2).toNat * 2)).block, (ad234.add ((x6_2).toNat * 2)).off + 1, none⟩ = some (.int .i64 ((rd_T26 l0 x6_2).f1))) (ds := []) (ba 14 0).toArray (by kernel_rfl) rfl rfl ⟨(blk_cell BK226.out 0).trans rfl, (blk_cell BK226.out 1).trans rfl, ((HB.out.cell (World.block_lt_of_cell? w _ hw234_0)).trans hw234_0), ((HB.out.cell (World.block_lt_of_cell? w _ hw234_1)).trans hw234_1)⟩ (fun hHeld => ?_); refine with_tabW impl_AddSpan.tab5 impl_AddSpan.bits5 (fun HT_ HW_ => ?_)
          generalize wr.drew = w28 at HO_5 BK226 HB hx234_0 hx234_1 hHeld ⊢
          refine zq 0 (some 30) (ba 14 1).toArray HT_ ?_
          refine zq 1 (some 31) (ba 14 3).toArray HT_ ?_
          refine zq 2 (some 32) (ba 14 7).toArray HT_ ?_
          refine zq 3 (some 33) (ba 14 15).toArray HT_ ?_
          refine zq 4 (some 34) (ba 14 31).toArray HT_ ?_
          refine zq 5 (some 35) (ba 14 63).toArray HT_ ?_
          refine zq 6 (some 36) (ba 14 127).toArray HT_ ?_
          refine zq 7 (some 37) (ba 14 255).toArray HT_ ?_
          refine zq 8 (some 38) (ba 14 511).toArray HT_ ?_
          refine zq 10 (some 40) (ba 14 1535).toArray HT_ ?_
          refine zt4 9 (some 39) (ba 14 2047).toArray HT_ HW_ hHeld ?_
          refine zt4 11 (some 41) (ba 14 4095).toArray HT_ HW_ hHeld ?_
          refine zq 12 (some 42) (ba 14 8191).toArray HT_ ?_
          refine zq 13 (some 43) (ba 14 16383).toArray HT_ ?_
          refine done_ (done_of HT_.out (by kernel_rfl)) ?_
          try go_wp2
          go_meet
          case rel => exact ⟨_, (x5_2), (x6_2), zS, H', ⟨by have := HJ2.out; have := HK2.out; first | omega | exact Nat.le_refl _⟩, ⟨(zR HO_5.out)⟩, ⟨(zP BK226.out)⟩, ⟨(zB1 GE226.out HB.out)⟩⟩
        ·rw [if_neg c23] at H
         exact absurd H (by simp)
       ·rw [if_neg c22] at H
        have c22b0 : decide (x6_2 < (l0.length : Int)) = false := decide_eq_false c22
        clear c22
        (first | rw [c22b0] | (simp only [i64_w, i32_w]; rw [c22b0]) | skip)
        have H' := zM H
        clear H
        try go_wp2
        have n0_ := zM (Kd.R_drew HO_5.out)
        have n1_ := zM (blk_drew BK226.out)
        have n2_ := zM (below_drew1 HB.out)
        clear HO_5
        clear BK226
        clear HB
        have HO_5 := n0_
        have BK226 := n1_
        have HB := n2_
        clear n0_ n1_ n2_
        refine start_ (n := 14) (S := fun w' => True) (ds := []) (ba 14 0).toArray (by kernel_rfl) rfl rfl trivial (fun hHeld => ?_); refine with_tabW impl_AddSpan.tab5 impl_AddSpan.bits5 (fun HT_ HW_ => ?_)
        generalize wr.drew = w29 at HO_5 BK226 HB hHeld ⊢
        refine zq 0 (some 30) (ba 14 1).toArray HT_ ?_
        refine zq 1 (some 31) (ba 14 3).toArray HT_ ?_
        refine zq 2 (some 32) (ba 14 7).toArray HT_ ?_
        refine zq 3 (some 33) (ba 14 15).toArray HT_ ?_
        refine zq 4 (some 34) (ba 14 31).toArray HT_ ?_
        refine zu 5 (some 35) (ba 14 63).toArray HT_ ?_
        refine zu 6 (some 36) (ba 14 127).toArray HT_ ?_
        refine zu 7 (some 37) (ba 14 255).toArray HT_ ?_
        refine zu 8 (some 38) (ba 14 511).toArray HT_ ?_
        refine zu 9 (some 39) (ba 14 1023).toArray HT_ ?_
        refine zu 10 (some 40) (ba 14 2047).toArray HT_ ?_
        refine zu 11 (some 41) (ba 14 4095).toArray HT_ ?_
        refine zu 12 (some 42) (ba 14 8191).toArray HT_ ?_
        refine zq 13 (some 43) (ba 14 16383).toArray HT_ ?_
        refine done_ (done_of HT_.out (by kernel_rfl)) ?_
        try go_wp2
        go_meet
        case rel => exact ⟨_, (x5_2), (x6_2), zS, H', ⟨by have := HJ2.out; have := HK2.out; first | omega | exact Nat.le_refl _⟩, ⟨(zR HO_5.out)⟩, ⟨(zP BK226.out)⟩, ⟨(zB1 GE226.out HB.out)⟩⟩
    case rest =>
     clear HC19
     try clear c1
     try clear c2
     try clear p2
     try clear q2
     try clear hx2
     try clear c3
     try clear c6
     try clear p6
     try clear c7
     try clear c7b0
     try clear c8
     try clear c10
     try clear c10b0
     try clear c16
     try clear c22
     try clear c22b0
     try clear c23
     try clear c23b0
     try clear p23
     try clear q23
     try clear hx23
     try clear c24
     try clear c24b0
     try clear c25
     try clear hcz12_0
     try clear hcz12_1
     try clear hcz14_0
     try clear hcz14_1
     try clear hcz9_0
     try clear hcz9_1
     try clear hfz12_0
     try clear hfz12_1
     try clear hfz14_0
     try clear hfz14_1
     try clear hfz9_0
     try clear hfz9_1
     try clear hx234_0
     try clear hx234_1
     try clear hx235_0
     try clear hx235_1
     try clear p2
     try clear p234
     try clear p235
     try clear q234
     try clear q235
     obtain ⟨kq, x5_18, x6_18, rfl, HA, HJ18, HO_5, BK226, HB⟩ := hcut
     cases kq with
     | zero => exact absurd HA.out (by simp [impl_AddSpan.j2])
     | succ kj18 =>
      have H := HA.out
      clear HA
      simp only [impl_AddSpan.j2] at H
      have H' := zM H
      clear H
      go_wp2
      go_loopg [6] kj18 (fun kq v6 w' => ∃ (x6_3 : Int) (x227000_3 : Int) (x227001_3 : Int), v6 = .int .i64 x6_3 ∧ Aside0 (impl_AddSpan.l1 kq l0 x5_18 x6_3 x227000_3 x227001_3 = some r) ∧ Aside0 (kq ≤ kj18) ∧ Aside0 (Kd.R k26 26 w' w.heap.size (fun k_ => k_ ≠ gb226) u5 x5_18) ∧ Aside0 (w'.heap[gb226]? = some (.cells #[.int .i64 x227000_3, .int .i64 x227001_3] 26 (0, 0))) ∧ Aside0 (Below w.heap.size w w'))
      case atStart => exact ⟨(x6_18), (a1_0), (a1_1), zS, H', ⟨Nat.le_refl _⟩, ⟨(zR HO_5.out)⟩, ⟨(zP BK226.out)⟩, ⟨(zB1 GE226.out HB.out)⟩⟩
      case round =>
       clear H'
       try clear c1
       try clear c2
       try clear p2
       try clear q2
       try clear hx2
       try clear c3
       try clear c6
       try clear p6
       try clear c7
       try clear c7b0
       try clear c8
       try clear c10
       try clear c10b0
       try clear c16
       try clear c22
       try clear c22b0
       try clear c23
       try clear c23b0
       try clear p23
       try clear q23
       try clear hx23
       try clear c24
       try clear c24b0
       try clear c25
       try clear hcz12_0
       try clear hcz12_1
       try clear hcz14_0
       try clear hcz14_1
       try clear hcz9_0
       try clear hcz9_1
       try clear hfz12_0
       try clear hfz12_1
       try clear hfz14_0
       try clear hfz14_1
       try clear hfz9_0
       try clear hfz9_1
       try clear hx234_0
       try clear hx234_1
       try clear hx235_0
       try clear hx235_1
       try clear p2
       try clear p23
       try clear p234
       try clear p235
       try clear p6
       try clear q2
       try clear q23
       try clear q234
       try clear q235
       obtain ⟨x6_3, x227000_3, x227001_3, rfl, HA, HK3, HO_5, BK226, HB⟩ := hrel
       cases gk with
       | zero => exact absurd HA.out (by simp [impl_AddSpan.l1])
       | succ k3 =>
        have H := HA.out
        clear HA
        simp only [impl_AddSpan.l1] at H
        by_cases c30 : x6_3 < (l0.length : Int)
        ·rw [if_pos c30] at H
         have c30b0 : decide (x6_3 < (l0.length : Int)) = true := decide_eq_true c30
         clear c30
         by_cases c31 : 0 ≤ x6_3
         ·rw [if_pos c31] at H
          have c31b0 : decide (0 ≤ x6_3) = true := decide_eq_true c31
          clear c31
          by_cases c32 : ((rd_T26 l0 x6_3).f0) ≤ x227001_3
          ·rw [if_pos c32] at H
           have c32b0 : decide (((rd_T26 l0 x6_3).f0) ≤ x227001_3) = true := decide_eq_true c32
           clear c32
           obtain ⟨ji33, hji33⟩ : ∃ j_ : Int, (mn x227000_3 ((rd_T26 l0 x6_3).f0)) = j_ := ⟨_, rfl⟩
           replace H : (impl_AddSpan.l1 k3 l0 x5_18 (wrap64 (x6_3 + 1)) ji33 (mx x227001_3 ((rd_T26 l0 x6_3).f1))) = some r := by first | (rw [hji33] at H; exact H) | (simp only [hji33] at H ⊢; exact H)
           have hji33_ : (if ((rd_T26 l0 x6_3).f0) < x227000_3 then ((rd_T26 l0 x6_3).f0) else x227000_3) = ji33 := hji33
           obtain ⟨ji34, hji34⟩ : ∃ j_ : Int, (mx x227001_3 ((rd_T26 l0 x6_3).f1)) = j_ := ⟨_, rfl⟩
           replace H : (impl_AddSpan.l1 k3 l0 x5_18 (wrap64 (x6_3 + 1)) ji33 ji34) = some r := by first | (rw [hji34] at H; exact H) | (simp only [hji34] at H ⊢; exact H)
           have hji34_ : (if x227001_3 < ((rd_T26 l0 x6_3).f1) then ((rd_T26 l0 x6_3).f1) else x227001_3) = ji34 := hji34
           have H' := zM H
           clear H
           try go_wp2
           have n0_ := zM (Kd.R_drew HO_5.out)
           have n1_ := zM (blk_drew BK226.out)
           have n2_ := zM (below_drew1 HB.out)
           clear HO_5
           clear BK226
           clear HB
           have HO_5 := n0_
           have BK226 := n1_
           have HB := n2_
           clear n0_ n1_ n2_
           have p239 : 0 ≤ (x6_3 : Int) := zD
           have q239 : x6_3 < (l0.length : Int) := zD
           obtain ⟨ad239, e239, hx239_0, hx239_1⟩ := at_T26 HR0.out x6_3 p239 q239
           have hw239_1 := hx239_1
           have hw239_0 := hx239_0
           cases e239
           replace hx239_0 := (HB.out.cell (World.block_lt_of_cell? w _ hx239_0)).trans hx239_0
           replace hx239_1 := (HB.out.cell (World.block_lt_of_cell? w _ hx239_1)).trans hx239_1
           replace p239 := eq_true p239
           replace q239 := eq_true q239
           refine start_ (n := 14) (S := fun w' => w'.cell? ⟨gb226, 0, none⟩ = some (.int .i64 x227000_3) ∧ w'.cell? ⟨gb226, 1, none⟩ = some (.int .i64 x227001_3) ∧ w'.cell? (ad239.add ((x6_3).toNat * 2)) = some (.int .i64 ((rd_T26 l0 x6_3).f0)) ∧ w'.cell? ⟨(ad239.add ((x6_3).toNat * 2)).block, (ad239.add ((x6_3).toNat * 2)).off + 1, none⟩ = some (.int .i64 ((rd_T26 l0 x6_3).f1))) (ds := []) (ba 14 0).toArray (by kernel_rfl) rfl rfl ⟨(blk_cell BK226.out 0).trans rfl, (blk_cell BK226.out 1).trans rfl, ((HB.out.cell (World.block_lt_of_cell? w _ hw239_0)).trans hw239_0), ((HB.out.cell (World.block_lt_of_cell? w _ hw239_1)).trans hw239_1)⟩ (fun hHeld => ?_); refine with_tabW impl_AddSpan.tab8 impl_AddSpan.bits8 (fun HT_ HW_ => ?_)
           generalize wr.drew = w35 at HO_5 BK226 HB hx239_0 hx239_1 hHeld ⊢
           refine zq 0 (some 53) (ba 14 1).toArray HT_ ?_
           refine zq 1 (some 54) (ba 14 3).toArray HT_ ?_
           refine zq 2 (some 55) (ba 14 7).toArray HT_ ?_
           refine zq 3 (some 56) (ba 14 15).toArray HT_ ?_
           refine zq 4 (some 57) (ba 14 31).toArray HT_ ?_
           refine zq 5 (some 58) (ba 14 63).toArray HT_ ?_
           refine zq 6 (some 59) (ba 14 127).toArray HT_ ?_
           refine zq 7 (some 60) (ba 14 255).toArray HT_ ?_
           refine zq 8 (some 61) (ba 14 511).toArray HT_ ?_
           refine zq 10 (some 63) (ba 14 1535).toArray HT_ ?_
           refine zt4 9 (some 62) (ba 14 2047).toArray HT_ HW_ hHeld ?_
           refine zt4 11 (some 64) (ba 14 4095).toArray HT_ HW_ hHeld ?_
           refine zq 12 (some 65) (ba 14 8191).toArray HT_ ?_
           refine zq 13 (some 66) (ba 14 16383).toArray HT_ ?_
           refine done_ (done_of HT_.out (by kernel_rfl)) ?_
           try go_wp2
           have n0_ := zM (Kd.R_drew HO_5.out)
           have n1_ := zM (blk_drew BK226.out)
           have n2_ := zM (below_drew1 HB.out)
           clear HO_5
           clear BK226
           clear HB
           have HO_5 := n0_
           have BK226 := n1_
           have HB := n2_
           clear n0_ n1_ n2_
           have p240 : 0 ≤ (x6_3 : Int) := zD
           have q240 : x6_3 < (l0.length : Int) := zD
           obtain ⟨ad240, e240, hx240_0, hx240_1⟩ := at_T26 HR0.out x6_3 p240 q240
           have hw240_1 := hx240_1
           have hw240_0 := hx240_0
           obtain rfl : ad239 = ad240 := (by injection e240)
           replace hx240_0 := (HB.out.cell (World.block_lt_of_cell? w _ hx240_0)).trans hx240_0
           replace hx240_1 := (HB.out.cell (World.block_lt_of_cell? w _ hx240_1)).trans hx240_1
           replace p240 := eq_true p240
           replace q240 := eq_true q240
           have p241 : 0 ≤ (x6_3 : Int) := zD
           have q241 : x6_3 < (l0.length : Int) := zD
           obtain ⟨ad241, e241, hx241_0, hx241_1⟩ := at_T26 HR0.out x6_3 p241 q241
           have hw241_1 := hx241_1
           have hw241_0 := hx241_0
           obtain rfl : ad239 = ad241 := (by injection e241)
           replace hx241_0 := (HB.out.cell (World.block_lt_of_cell? w _ hx241_0)).trans hx241_0
           replace hx241_1 := (HB.out.cell (World.block_lt_of_cell? w _ hx241_1)).trans hx241_1
           replace p241 := eq_true p241
           replace q241 := eq_true q241
           refine start_ (n := 18) (S := fun w' => w'.cell? ⟨gb226, 0, none⟩ = some (.int .i64 x227000_3) ∧ w'.cell? ⟨gb226, 1, none⟩ = some (.int .i64 x227001_3) ∧ w'.cell? (ad239.add ((x6_3).toNat * 2)) = some (.int .i64 ((rd_T26 l0 x6_3).f0)) ∧ w'.cell? ⟨(ad239.add ((x6_3).toNat * 2)).block, (ad239.add ((x6_3).toNat * 2)).off + 1, none⟩ = some (.int .i64 ((rd_T26 l0 x6_3).f1)) ∧ w'.cell? (ad239.add ((x6_3).toNat * 2)) = some (.int .i64 ((rd_T26 l0 x6_3).f0)) ∧ w'.cell? ⟨(ad239.add ((x6_3).toNat * 2)).block, (ad239.add ((x6_3).toNat * 2)).off + 1, none⟩ = some (.int .i64 ((rd_T26 l0 x6_3).f1))) (ds := [17]) (ba 18 0).toArray (by kernel_rfl) rfl rfl ⟨(blk_cell BK226.out 0).trans rfl, (blk_cell BK226.out 1).trans rfl, ((HB.out.cell (World.block_lt_of_cell? w _ hw240_0)).trans hw240_0), ((HB.out.cell (World.block_lt_of_cell? w _ hw240_1)).trans hw240_1), ((HB.out.cell (World.block_lt_of_cell? w _ hw241_0)).trans hw241_0), ((HB.out.cell (World.block_lt_of_cell? w _ hw241_1)).trans hw241_1)⟩ (fun hHeld => ?_); refine with_tabW impl_AddSpan.tab10 impl_AddSpan.bits10 (fun HT_ HW_ => ?_)
           generalize w35.drew = w36 at HO_5 BK226 HB hx240_0 hx240_1 hx241_0 hx241_1 hHeld ⊢
           refine zq 0 (some 69) (ba 18 1).toArray HT_ ?_
           refine zq 2 (some 71) (ba 18 5).toArray HT_ ?_
           refine zq 3 (some 72) (ba 18 13).toArray HT_ ?_
           refine zq 4 (some 73) (ba 18 29).toArray HT_ ?_
           refine zq 5 (some 74) (ba 18 61).toArray HT_ ?_
           refine zq 8 (some 77) (ba 18 317).toArray HT_ ?_
           refine zq 10 (some 79) (ba 18 1341).toArray HT_ ?_
           refine zq 11 (some 80) (ba 18 3389).toArray HT_ ?_
           refine zq 12 (some 81) (ba 18 7485).toArray HT_ ?_
           refine zq 13 (some 82) (ba 18 15677).toArray HT_ ?_
           refine zt6 1 (some 70) (ba 18 15679).toArray HT_ HW_ hHeld ?_
           refine zt6 6 (some 75) (ba 18 15743).toArray HT_ HW_ hHeld ?_
           refine zq 7 (some 76) (ba 18 15871).toArray HT_ ?_
           refine zt6 9 (some 78) (ba 18 16383).toArray HT_ HW_ hHeld ?_
           refine zt6 14 (some 83) (ba 18 32767).toArray HT_ HW_ hHeld ?_
           refine zq 15 (some 84) (ba 18 65535).toArray HT_ ?_
           refine zq 16 (some 85) (ba 18 131071).toArray HT_ ?_
           refine last_ (i := 17) (N := none) (ba 18 262143).toArray rfl rfl (one_of HT_.out (by kernel_rfl)) (by decide) (fun K hK => ?_)
           have hs37 : w36.cell? ⟨gb226, 0, none⟩ = some (.int .i64 x227000_3) := (blk_cell BK226.out 0).trans rfl
           have hfs37 := blk_frozen BK226.out 0
           have hs38 : w36.cell? ⟨gb226, 1, none⟩ = some (.int .i64 x227001_3) := (blk_cell BK226.out 1).trans rfl
           have hfs38 := blk_frozen BK226.out 1
           refine skip_ (w1 := ?_) (by rfl) rfl ?_ ?_
           rotate_left
           ·go_simp
            rfl
           refine hK.out _ _ ?_
           clear hK K
           refine done_ (done_of HT_.out (by kernel_rfl)) ?_
           try go_wp2
           go_roundg k3
           case measure => have := HJ2.out; have := HJ18.out; have := HK3.out; omega
           case rel => exact ⟨(wrap64 (x6_3 + 1)), (ji33), (ji34), zS, H', ⟨by have := HJ2.out; have := HJ18.out; have := HK3.out; omega⟩, ⟨by (with_reducible repeat (first | apply Kd.R_alloc | apply Kd.R_drewN | apply Kd.R_drew)); exact Kd.R_mono (Kd.R_far (p := ⟨gb226, 1, none⟩) (Kd.R_far (p := ⟨gb226, 0, none⟩) (Kd.R_mono HO_5.out (fun k_ hk => (⟨hk, hk⟩ : _ ∧ k_ ≠ gb226))) (fun _ hk => hk.2) (.int .i64 ji33)) (fun _ hk => hk.2) (.int .i64 ji34)) (fun _ hk => hk.1)⟩, ⟨by (with_reducible repeat (first | refine blk_drewN ?_ _ | refine blk_drew ?_ | refine blk_alloc ?_ _)); refine blk_put (cs := #[.int .i64 ji33, .int .i64 x227001_3]) ?_ 1 _ rfl; (with_reducible repeat (first | refine blk_drewN ?_ _ | refine blk_drew ?_ | refine blk_alloc ?_ _)); refine blk_put (cs := #[.int .i64 x227000_3, .int .i64 x227001_3]) ?_ 0 _ rfl; (with_reducible repeat (first | refine blk_drewN ?_ _ | refine blk_drew ?_ | refine blk_alloc ?_ _)); exact BK226.out⟩, ⟨(zB1 GE226.out HB.out)⟩⟩
          ·rw [if_neg c32] at H
           have c32b0 : decide (((rd_T26 l0 x6_3).f0) ≤ x227001_3) = false := decide_eq_false c32
           clear c32
           by_cases c39 : x5_18.length < 8796093022208
           ·rw [if_pos c39] at H
            have LMc39 := zM c39
            clear c39
            obtain ⟨y242, hy242⟩ : ∃ y_ : List (S26), y_ = (x5_18 ++ [(⟨x227000_3, x227001_3⟩ : S26)]) := ⟨_, rfl⟩
            replace H : (if x6_3 ≤ (l0.length : Int) then ((some (l0.drop (x6_3 : Int).toNat : List (S26))).bind fun y245 => (if y242.length + y245.length < 8796093022208 then (some (y242 ++ y245)) else (none))) else (none)) = some r := zH hy242 H
            have Ny242 := zM hy242
            clear hy242
            have c40b0 := eq_true (zD : 0 ≤ x6_3)
            by_cases c41 : x6_3 ≤ (l0.length : Int)
            ·rw [if_pos c41] at H
             have c41b0 := eq_true c41
             have c41b1 : decide (x6_3 ≤ (l0.length : Int)) = true := decide_eq_true c41
             clear c41
             obtain ⟨y245, hy245⟩ : ∃ y_ : List (S26), y_ = (l0.drop (x6_3 : Int).toNat) := ⟨_, rfl⟩
             replace H : (if y242.length + y245.length < 8796093022208 then (some (y242 ++ y245)) else (none)) = some r := zH hy245 H
             have Ny245 := zM hy245
             clear hy245
             by_cases c42 : y242.length + y245.length < 8796093022208
             ·rw [if_pos c42] at H
              have LMc42 := zM c42
              clear c42
              obtain ⟨y249, hy249⟩ : ∃ y_ : List (S26), y_ = (y242 ++ y245) := ⟨_, rfl⟩
              replace H : (some y249) = some r := zH hy249 H
              have Ny249 := zM hy249
              clear hy249
              obtain rfl := Option.some.inj H
              try go_wp2
              have n0_ := zM (Kd.R_drew HO_5.out)
              have n1_ := zM (blk_drew BK226.out)
              have n2_ := zM (below_drew1 HB.out)
              clear HO_5
              clear BK226
              clear HB
              have HO_5 := n0_
              have BK226 := n1_
              have HB := n2_
              clear n0_ n1_ n2_
              have p239 : 0 ≤ (x6_3 : Int) := zD
              have q239 : x6_3 < (l0.length : Int) := zD
              obtain ⟨ad239, e239, hx239_0, hx239_1⟩ := at_T26 HR0.out x6_3 p239 q239
              have hw239_1 := hx239_1
              have hw239_0 := hx239_0
              cases e239
              replace hx239_0 := (HB.out.cell (World.block_lt_of_cell? w _ hx239_0)).trans hx239_0
              replace hx239_1 := (HB.out.cell (World.block_lt_of_cell? w _ hx239_1)).trans hx239_1
              replace p239 := eq_true p239
              replace q239 := eq_true q239
              refine start_ (n := 14) (S := fun w' => w'.cell? ⟨gb226, 0, none⟩ = some (.int .i64 x227000_3) ∧ w'.cell? ⟨gb226, 1, none⟩ = some (.int .i64 x227001_3) ∧ w'.cell? (ad239.add ((x6_3).toNat * 2)) = some (.int .i64 ((rd_T26 l0 x6_3).f0)) ∧ w'.cell? ⟨(ad239.add ((x6_3).toNat * 2)).block, (ad239.add ((x6_3).toNat * 2)).off + 1, none⟩ = some (.int .i64 ((rd_T26 l0 x6_3).f1))) (ds := []) (ba 14 0).toArray (by kernel_rfl) rfl rfl ⟨(blk_cell BK226.out 0).trans rfl, (blk_cell BK226.out 1).trans rfl, ((HB.out.cell (World.block_lt_of_cell? w _ hw239_0)).trans hw239_0), ((HB.out.cell (World.block_lt_of_cell? w _ hw239_1)).trans hw239_1)⟩ (fun hHeld => ?_); refine with_tabW impl_AddSpan.tab8 impl_AddSpan.bits8 (fun HT_ HW_ => ?_)
              generalize wr.drew = w43 at HO_5 BK226 HB hx239_0 hx239_1 hHeld ⊢
              refine zq 0 (some 53) (ba 14 1).toArray HT_ ?_
              refine zq 1 (some 54) (ba 14 3).toArray HT_ ?_
              refine zq 2 (some 55) (ba 14 7).toArray HT_ ?_
              refine zq 3 (some 56) (ba 14 15).toArray HT_ ?_
              refine zq 4 (some 57) (ba 14 31).toArray HT_ ?_
              refine zq 5 (some 58) (ba 14 63).toArray HT_ ?_
              refine zq 6 (some 59) (ba 14 127).toArray HT_ ?_
              refine zq 7 (some 60) (ba 14 255).toArray HT_ ?_
              refine zq 8 (some 61) (ba 14 511).toArray HT_ ?_
              refine zq 10 (some 63) (ba 14 1535).toArray HT_ ?_
              refine zt4 9 (some 62) (ba 14 2047).toArray HT_ HW_ hHeld ?_
              refine zt4 11 (some 64) (ba 14 4095).toArray HT_ HW_ hHeld ?_
              refine zq 12 (some 65) (ba 14 8191).toArray HT_ ?_
              refine zq 13 (some 66) (ba 14 16383).toArray HT_ ?_
              refine done_ (done_of HT_.out (by kernel_rfl)) ?_
              try go_wp2
              have n0_ := zM (Kd.R_drew HO_5.out)
              have n1_ := zM (blk_drew BK226.out)
              have n2_ := zM (below_drew1 HB.out)
              clear HO_5
              clear BK226
              clear HB
              have HO_5 := n0_
              have BK226 := n1_
              have HB := n2_
              clear n0_ n1_ n2_
              have q45 : (x6_3 : Int) ≤ ((l0.length : Int) : Int) := zD
              obtain ⟨i045, hi045, _, hsz45, _⟩ := info_parts info26
              have hroom45 : l0.length ≤ c0 := HC0.out
              have hC45 : Kd.C k26 _ (some ad239) l0.length l0 := HR0.out
              have q045 : (0 : Int) ≤ (x6_3 : Int) := zD
              have hcut45 := cut_from (P := Try.prog) 24 26 .i64 Try.underlying24 hi045 2 hsz45 (some ad239) l0.length c0 x6_3 q045 q45
              have hr45 := Kd.C_drop (m := (x6_3 : Int).toNat) (c := c0) hC45 (by omega) hroom45
              obtain ⟨A45, hA45⟩ : ∃ A1, A1 = (if c0 = (x6_3 : Int).toNat then (some ad239) else ((some ad239) : Option Addr).map (·.add ((x6_3 : Int).toNat * 2))) := ⟨_, rfl⟩
              obtain ⟨c45, hc45⟩ : ∃ c1, c1 = c0 - (x6_3 : Int).toNat := ⟨_, rfl⟩
              have hy45 : y245.length = l0.length - (x6_3 : Int).toNat := (by rw [Ny245.out, List.length_drop] <;> omega)
              rw [show (l0).drop (x6_3 : Int).toNat = y245 from Ny245.out.symm] at hr45
              replace hr45 : Kd.C k26 _ A45 y245.length y245 := (by rw [hA45]; exact hr45)
              rw [← hy45, ← hA45, ← hc45] at hcut45
              have HR248 := zM hr45
              have HC248 := zM (show y245.length ≤ c45 from by rw [hy45, hc45]; exact Nat.sub_le_sub_right hroom45 _)
              clear hr45 hC45 hroom45 hi045 hsz45 hc45
              have KY45 := zM hy45
              have KA45 := zM hA45
              clear hy45 hA45
              replace q45 := eq_true q45
              refine start_ (n := 9) (S := fun w' => w'.cell? ⟨gb226, 0, none⟩ = some (.int .i64 x227000_3) ∧ w'.cell? ⟨gb226, 1, none⟩ = some (.int .i64 x227001_3)) (ds := []) (ba 9 0).toArray (by kernel_rfl) rfl rfl ⟨(blk_cell BK226.out 0).trans rfl, (blk_cell BK226.out 1).trans rfl⟩ (fun hHeld => ?_); refine with_tabW impl_AddSpan.tab11 impl_AddSpan.bits11 (fun HT_ HW_ => ?_)
              generalize w43.drew = w44 at HO_5 BK226 HB HR248 hHeld ⊢
              refine zq 0 (some 86) (ba 9 1).toArray HT_ ?_
              refine zq 4 (some 90) (ba 9 17).toArray HT_ ?_
              refine zq 5 (some 91) (ba 9 49).toArray HT_ ?_
              refine zq 6 (some 92) (ba 9 113).toArray HT_ ?_
              refine zt2 1 (some 87) (ba 9 115).toArray HT_ HW_ hHeld ?_
              refine one_ (i := 2) (N := some 88) (ba 9 119).toArray rfl rfl (one_of HT_.out (by kernel_rfl)) (by decide) (fun K hK => ?_)
              refine value_ (w1 := ?_) (v := ?_) (by rfl) rfl ?_ ?_
              rotate_left 2
              ·go_simp
               constructor
               ·rfl
               ·rfl
              refine hK.out _ _ ⟨(blk_cell (blk_alloc BK226.out _) 0).trans rfl, (blk_cell (blk_alloc BK226.out _) 1).trans rfl⟩ (fun hHeld => ?_)
              clear hK K
              refine norm_ (a' := ?_) ?_ ?_
              rotate_left
              ·show Act.put _ (some 88) _ = _
               simp only [Act.put, List.setIfInBounds_toArray, List.set_cons_zero, List.set_cons_succ, i64_w, i32_w]
               rfl
              refine one_ (i := 3) (N := some 89) (ba 9 127).toArray rfl rfl (one_of HT_.out (by kernel_rfl)) (by decide) (fun K hK => ?_)
              refine Kd.R_append_step k26 (w0 := w) w.heap.size (by rfl) (.tmp 86) (.tmp 88) 24 26 (.agg #[(.int .i64 0), (.int .i64 0)]) 16 rfl Try.underlying24 info26 rfl (by decide) (by omega) u5 x5_18 (⟨x227000_3, x227001_3⟩ : S26) [.int .i64 x227000_3, .int .i64 x227001_3] (fun k_ => k_ ≠ gb226) (fun _ => False) rfl rfl ?aP (fun _ hk => hk.elim) ?aF ?aO ?aB ?aS ?aL ?_
              (case aP => exact k26_mkM _ _ _ (⟨x227000_3, x227001_3⟩ : S26))
              (case aB => exact (zB1 GE226.out HB.out))
              (case aF => exact (fun k_ hk => Kd.freshB (g := gb226) (o := .cells #[.int .i64 x227000_3, .int .i64 x227001_3] 26 (0, 0)) (zP BK226.out) k_ hk))
              (case aO => exact (zR HO_5.out))
              (case aS => exact (below_size (zB1 GE226.out HB.out)))
              (case aL => have := LMc39.out; omega)
              intro v243 w46 ho hb hg hat
              rw [← Ny242.out] at ho
              have n0_ := zM (blk_grown (g := gb226) (o := .cells #[.int .i64 x227000_3, .int .i64 x227001_3] 26 (0, 0)) (zP BK226.out) hg (Kd.R_away HO_5.out (fun _ hk => hk)))
              have n1_ := zM (hb)
              have n2_ := zM (ho)
              clear BK226
              clear HB
              clear HO_5
              have BK226 := n0_
              have HB := n1_
              have HO244 := n2_
              clear n0_ n1_ n2_
              clear ho hb hg hat
              refine hK.out _ _ ⟨(blk_cell BK226.out 0).trans rfl, (blk_cell BK226.out 1).trans rfl⟩ (fun hHeld => ?_)
              clear hK K
              refine norm_ (a' := ?_) ?_ ?_
              rotate_left
              ·show Act.put _ (some 89) _ = _
               simp only [Act.put, List.setIfInBounds_toArray, List.set_cons_zero, List.set_cons_succ, i64_w, i32_w]
               rfl
              refine one_ (i := 7) (N := some 93) (ba 9 255).toArray rfl rfl (one_of HT_.out (by kernel_rfl)) (by decide) (fun K hK => ?_)
              refine Kd.R_append_rows_step k26 (w0 := w) w.heap.size (by rfl) (.tmp 89) (.tmp 92) 24 26 (.agg #[(.int .i64 0), (.int .i64 0)]) 16 rfl Try.underlying24 info26 rfl (by decide) (by omega) v243 y242 y245 _ _ _ (fun k_ => k_ ≠ gb226) (fun _ => False) rfl rfl ?aO ?aR (fun _ _ h => h) (fun _ h => h.elim) ?aF ?aB ?aS ?aL ?_
              (case aR => exact (zC (Kd.C_below HR248.out HB.out)))
              (case aB => exact (zB1 GE226.out HB.out))
              (case aF => exact (fun k_ hk => Kd.freshB (g := gb226) (o := .cells #[.int .i64 x227000_3, .int .i64 x227001_3] 26 (0, 0)) (zP BK226.out) k_ hk))
              (case aO => exact (zR HO244.out))
              (case aS => exact (below_size (zB1 GE226.out HB.out)))
              (case aL => have := LMc42.out; omega)
              intro v250 w47 ho hb hg hat
              rw [← Ny249.out] at ho
              have n0_ := zM (blk_grown (g := gb226) (o := .cells #[.int .i64 x227000_3, .int .i64 x227001_3] 26 (0, 0)) (zP BK226.out) hg (Kd.R_away HO244.out (fun _ hk => hk)))
              have n1_ := zM (hb)
              have n2_ := zM (ho)
              clear BK226
              clear HB
              clear HO244
              have BK226 := n0_
              have HB := n1_
              have HO251 := n2_
              clear n0_ n1_ n2_
              clear ho hb hg hat
              refine hK.out _ _ ⟨(blk_cell BK226.out 0).trans rfl, (blk_cell BK226.out 1).trans rfl⟩ (fun hHeld => ?_)
              clear hK K
              refine norm_ (a' := ?_) ?_ ?_
              rotate_left
              ·show Act.put _ (some 93) _ = _
               simp only [Act.put, List.setIfInBounds_toArray, List.set_cons_zero, List.set_cons_succ, i64_w, i32_w]
               rfl
              refine zq 8 (some 4) (ba 9 511).toArray HT_ ?_
              refine done_ (done_of HT_.out (by kernel_rfl)) ?_
              try go_wp2
              go_ret
              exact ⟨_, zE, (zRm HO251.out (fun _ hk => trivial)), (zB1 GE226.out HB.out)⟩
             ·rw [if_neg c42] at H
              exact absurd H (by simp)
            ·rw [if_neg c41] at H
             exact absurd H (by simp)
           ·rw [if_neg c39] at H
            exact absurd H (by simp)
         ·rw [if_neg c31] at H
          exact absurd H (by simp)
        ·rw [if_neg c30] at H
         have c30b0 : decide (x6_3 < (l0.length : Int)) = false := decide_eq_false c30
         clear c30
         by_cases c48 : x5_18.length < 8796093022208
         ·rw [if_pos c48] at H
          have LMc48 := zM c48
          clear c48
          obtain ⟨y252, hy252⟩ : ∃ y_ : List (S26), y_ = (x5_18 ++ [(⟨x227000_3, x227001_3⟩ : S26)]) := ⟨_, rfl⟩
          replace H : (if 0 ≤ x6_3 then (if x6_3 ≤ (l0.length : Int) then ((some (l0.drop (x6_3 : Int).toNat : List (S26))).bind fun y255 => (if y252.length + y255.length < 8796093022208 then (some (y252 ++ y255)) else (none))) else (none)) else (none)) = some r := zH hy252 H
          have Ny252 := zM hy252
          clear hy252
          by_cases c49 : 0 ≤ x6_3
          ·rw [if_pos c49] at H
           have c49b0 := eq_true c49
           have c49b1 : decide (0 ≤ x6_3) = true := decide_eq_true c49
           clear c49
           by_cases c50 : x6_3 ≤ (l0.length : Int)
           ·rw [if_pos c50] at H
            have c50b0 := eq_true c50
            have c50b1 : decide (x6_3 ≤ (l0.length : Int)) = true := decide_eq_true c50
            clear c50
            obtain ⟨y255, hy255⟩ : ∃ y_ : List (S26), y_ = (l0.drop (x6_3 : Int).toNat) := ⟨_, rfl⟩
            replace H : (if y252.length + y255.length < 8796093022208 then (some (y252 ++ y255)) else (none)) = some r := zH hy255 H
            have Ny255 := zM hy255
            clear hy255
            by_cases c51 : y252.length + y255.length < 8796093022208
            ·rw [if_pos c51] at H
             have LMc51 := zM c51
             clear c51
             obtain ⟨y259, hy259⟩ : ∃ y_ : List (S26), y_ = (y252 ++ y255) := ⟨_, rfl⟩
             replace H : (some y259) = some r := zH hy259 H
             have Ny259 := zM hy259
             clear hy259
             obtain rfl := Option.some.inj H
             try go_wp2
             have n0_ := zM (Kd.R_drew HO_5.out)
             have n1_ := zM (blk_drew BK226.out)
             have n2_ := zM (below_drew1 HB.out)
             clear HO_5
             clear BK226
             clear HB
             have HO_5 := n0_
             have BK226 := n1_
             have HB := n2_
             clear n0_ n1_ n2_
             refine start_ (n := 14) (S := fun w' => True) (ds := []) (ba 14 0).toArray (by kernel_rfl) rfl rfl trivial (fun hHeld => ?_); refine with_tabW impl_AddSpan.tab8 impl_AddSpan.bits8 (fun HT_ HW_ => ?_)
             generalize wr.drew = w52 at HO_5 BK226 HB hHeld ⊢
             refine zq 0 (some 53) (ba 14 1).toArray HT_ ?_
             refine zq 1 (some 54) (ba 14 3).toArray HT_ ?_
             refine zq 2 (some 55) (ba 14 7).toArray HT_ ?_
             refine zq 3 (some 56) (ba 14 15).toArray HT_ ?_
             refine zq 4 (some 57) (ba 14 31).toArray HT_ ?_
             refine zu 5 (some 58) (ba 14 63).toArray HT_ ?_
             refine zu 6 (some 59) (ba 14 127).toArray HT_ ?_
             refine zu 7 (some 60) (ba 14 255).toArray HT_ ?_
             refine zu 8 (some 61) (ba 14 511).toArray HT_ ?_
             refine zu 9 (some 62) (ba 14 1023).toArray HT_ ?_
             refine zu 10 (some 63) (ba 14 2047).toArray HT_ ?_
             refine zu 11 (some 64) (ba 14 4095).toArray HT_ ?_
             refine zu 12 (some 65) (ba 14 8191).toArray HT_ ?_
             refine zq 13 (some 66) (ba 14 16383).toArray HT_ ?_
             refine done_ (done_of HT_.out (by kernel_rfl)) ?_
             try go_wp2
             have n0_ := zM (Kd.R_drew HO_5.out)
             have n1_ := zM (blk_drew BK226.out)
             have n2_ := zM (below_drew1 HB.out)
             clear HO_5
             clear BK226
             clear HB
             have HO_5 := n0_
             have BK226 := n1_
             have HB := n2_
             clear n0_ n1_ n2_
             have q54 : (x6_3 : Int) ≤ ((l0.length : Int) : Int) := zD
             obtain ⟨i054, hi054, _, hsz54, _⟩ := info_parts info26
             have hroom54 : l0.length ≤ c0 := HC0.out
             have hC54 : Kd.C k26 _ A0 l0.length l0 := HR0.out
             have q054 : (0 : Int) ≤ (x6_3 : Int) := zD
             have hcut54 := cut_from (P := Try.prog) 24 26 .i64 Try.underlying24 hi054 2 hsz54 A0 l0.length c0 x6_3 q054 q54
             have hr54 := Kd.C_drop (m := (x6_3 : Int).toNat) (c := c0) hC54 (by omega) hroom54
             obtain ⟨A54, hA54⟩ : ∃ A1, A1 = (if c0 = (x6_3 : Int).toNat then A0 else (A0 : Option Addr).map (·.add ((x6_3 : Int).toNat * 2))) := ⟨_, rfl⟩
             obtain ⟨c54, hc54⟩ : ∃ c1, c1 = c0 - (x6_3 : Int).toNat := ⟨_, rfl⟩
             have hy54 : y255.length = l0.length - (x6_3 : Int).toNat := (by rw [Ny255.out, List.length_drop] <;> omega)
             rw [show (l0).drop (x6_3 : Int).toNat = y255 from Ny255.out.symm] at hr54
             replace hr54 : Kd.C k26 _ A54 y255.length y255 := (by rw [hA54]; exact hr54)
             rw [← hy54, ← hA54, ← hc54] at hcut54
             have HR258 := zM hr54
             have HC258 := zM (show y255.length ≤ c54 from by rw [hy54, hc54]; exact Nat.sub_le_sub_right hroom54 _)
             clear hr54 hC54 hroom54 hi054 hsz54 hc54
             have KY54 := zM hy54
             have KA54 := zM hA54
             clear hy54 hA54
             replace q54 := eq_true q54
             refine start_ (n := 9) (S := fun w' => w'.cell? ⟨gb226, 0, none⟩ = some (.int .i64 x227000_3) ∧ w'.cell? ⟨gb226, 1, none⟩ = some (.int .i64 x227001_3)) (ds := []) (ba 9 0).toArray (by kernel_rfl) rfl rfl ⟨(blk_cell BK226.out 0).trans rfl, (blk_cell BK226.out 1).trans rfl⟩ (fun hHeld => ?_); refine with_tabW impl_AddSpan.tab11 impl_AddSpan.bits11 (fun HT_ HW_ => ?_)
             generalize w52.drew = w53 at HO_5 BK226 HB HR258 hHeld ⊢
             refine zq 0 (some 86) (ba 9 1).toArray HT_ ?_
             refine zq 4 (some 90) (ba 9 17).toArray HT_ ?_
             refine zq 5 (some 91) (ba 9 49).toArray HT_ ?_
             refine zq 6 (some 92) (ba 9 113).toArray HT_ ?_
             refine zt2 1 (some 87) (ba 9 115).toArray HT_ HW_ hHeld ?_
             refine one_ (i := 2) (N := some 88) (ba 9 119).toArray rfl rfl (one_of HT_.out (by kernel_rfl)) (by decide) (fun K hK => ?_)
             refine value_ (w1 := ?_) (v := ?_) (by rfl) rfl ?_ ?_
             rotate_left 2
             ·go_simp
              constructor
              ·rfl
              ·rfl
             refine hK.out _ _ ⟨(blk_cell (blk_alloc BK226.out _) 0).trans rfl, (blk_cell (blk_alloc BK226.out _) 1).trans rfl⟩ (fun hHeld => ?_)
             clear hK K
             refine norm_ (a' := ?_) ?_ ?_
             rotate_left
             ·show Act.put _ (some 88) _ = _
              simp only [Act.put, List.setIfInBounds_toArray, List.set_cons_zero, List.set_cons_succ, i64_w, i32_w]
              rfl
             refine one_ (i := 3) (N := some 89) (ba 9 127).toArray rfl rfl (one_of HT_.out (by kernel_rfl)) (by decide) (fun K hK => ?_)
             refine Kd.R_append_step k26 (w0 := w) w.heap.size (by rfl) (.tmp 86) (.tmp 88) 24 26 (.agg #[(.int .i64 0), (.int .i64 0)]) 16 rfl Try.underlying24 info26 rfl (by decide) (by omega) u5 x5_18 (⟨x227000_3, x227001_3⟩ : S26) [.int .i64 x227000_3, .int .i64 x227001_3] (fun k_ => k_ ≠ gb226) (fun _ => False) rfl rfl ?aP (fun _ hk => hk.elim) ?aF ?aO ?aB ?aS ?aL ?_
             (case aP => exact k26_mkM _ _ _ (⟨x227000_3, x227001_3⟩ : S26))
             (case aB => exact (zB1 GE226.out HB.out))
             (case aF => exact (fun k_ hk => Kd.freshB (g := gb226) (o := .cells #[.int .i64 x227000_3, .int .i64 x227001_3] 26 (0, 0)) (zP BK226.out) k_ hk))
             (case aO => exact (zR HO_5.out))
             (case aS => exact (below_size (zB1 GE226.out HB.out)))
             (case aL => have := LMc48.out; omega)
             intro v253 w55 ho hb hg hat
             rw [← Ny252.out] at ho
             have n0_ := zM (blk_grown (g := gb226) (o := .cells #[.int .i64 x227000_3, .int .i64 x227001_3] 26 (0, 0)) (zP BK226.out) hg (Kd.R_away HO_5.out (fun _ hk => hk)))
             have n1_ := zM (hb)
             have n2_ := zM (ho)
             clear BK226
             clear HB
             clear HO_5
             have BK226 := n0_
             have HB := n1_
             have HO254 := n2_
             clear n0_ n1_ n2_
             clear ho hb hg hat
             refine hK.out _ _ ⟨(blk_cell BK226.out 0).trans rfl, (blk_cell BK226.out 1).trans rfl⟩ (fun hHeld => ?_)
             clear hK K
             refine norm_ (a' := ?_) ?_ ?_
             rotate_left
             ·show Act.put _ (some 89) _ = _
              simp only [Act.put, List.setIfInBounds_toArray, List.set_cons_zero, List.set_cons_succ, i64_w, i32_w]
              rfl
             refine one_ (i := 7) (N := some 93) (ba 9 255).toArray rfl rfl (one_of HT_.out (by kernel_rfl)) (by decide) (fun K hK => ?_)
             refine Kd.R_append_rows_step k26 (w0 := w) w.heap.size (by rfl) (.tmp 89) (.tmp 92) 24 26 (.agg #[(.int .i64 0), (.int .i64 0)]) 16 rfl Try.underlying24 info26 rfl (by decide) (by omega) v253 y252 y255 _ _ _ (fun k_ => k_ ≠ gb226) (fun _ => False) rfl rfl ?aO ?aR (fun _ _ h => h) (fun _ h => h.elim) ?aF ?aB ?aS ?aL ?_
             (case aR => exact (zC (Kd.C_below HR258.out HB.out)))
             (case aB => exact (zB1 GE226.out HB.out))
             (case aF => exact (fun k_ hk => Kd.freshB (g := gb226) (o := .cells #[.int .i64 x227000_3, .int .i64 x227001_3] 26 (0, 0)) (zP BK226.out) k_ hk))
             (case aO => exact (zR HO254.out))
             (case aS => exact (below_size (zB1 GE226.out HB.out)))
             (case aL => have := LMc51.out; omega)
             intro v260 w56 ho hb hg hat
             rw [← Ny259.out] at ho
             have n0_ := zM (blk_grown (g := gb226) (o := .cells #[.int .i64 x227000_3, .int .i64 x227001_3] 26 (0, 0)) (zP BK226.out) hg (Kd.R_away HO254.out (fun _ hk => hk)))
             have n1_ := zM (hb)
             have n2_ := zM (ho)
             clear BK226
             clear HB
             clear HO254
             have BK226 := n0_
             have HB := n1_
             have HO261 := n2_
             clear n0_ n1_ n2_
             clear ho hb hg hat
             refine hK.out _ _ ⟨(blk_cell BK226.out 0).trans rfl, (blk_cell BK226.out 1).trans rfl⟩ (fun hHeld => ?_)
             clear hK K
             refine norm_ (a' := ?_) ?_ ?_
             rotate_left
             ·show Act.put _ (some 93) _ = _
              simp only [Act.put, List.setIfInBounds_toArray, List.set_cons_zero, List.set_cons_succ, i64_w, i32_w]
              rfl
             refine zq 8 (some 4) (ba 9 511).toArray HT_ ?_
             refine done_ (done_of HT_.out (by kernel_rfl)) ?_
             try go_wp2
             go_ret
             exact ⟨_, zE, (zRm HO261.out (fun _ hk => trivial)), (zB1 GE226.out HB.out)⟩
            ·rw [if_neg c51] at H
             exact absurd H (by simp)
           ·rw [if_neg c50] at H
            exact absurd H (by simp)
          ·rw [if_neg c49] at H
           exact absurd H (by simp)
         ·rw [if_neg c48] at H
          exact absurd H (by simp)

end Go.Proofs.Yteahdfibipalkaa.G

namespace Go.Proofs.Yteahdfibipalkaa.G
open Go.RowKit Go.Proofs.YteahdfibipalkaaW.PrintWords Go.Proofs.YteahdfibipalkaaW.PrintLast Go.Proofs.YteahdfibipalkaaW.PrintMore
attribute [local go_sem] max2_int min2_int max_two min_two max_three min_three max_four min_four   -- for this text's walks alone
set_option linter.unusedVariables false
set_option linter.unusedSimpArgs false

/-- Where p first holds, or -1. -/
theorem idxI_hit {α : Type} {p : α → Bool} {l : List α} (d : α) {k : Nat} (hk : k < l.length) (hp : p (l.getD k d) = true) (hn : ∀ j, j < k → p (l.getD j d) = false) : idxI p l = (k : Int) := by
 have e : l.findIdx p = k := by
  rw [List.findIdx_eq hk]
  refine ⟨by simpa [List.getD_eq_getElem?_getD, List.getElem?_eq_getElem hk] using hp, fun j hj => ?_⟩
  have := hn j hj
  simpa [List.getD_eq_getElem?_getD, List.getElem?_eq_getElem (Nat.lt_trans hj hk)] using this
 rw [idxI, e, if_pos hk]
theorem idxI_miss {α : Type} {p : α → Bool} {l : List α} (d : α) (hn : ∀ j, j < l.length → p (l.getD j d) = false) : idxI p l = -1 := by
 have e : ¬ l.findIdx p < l.length := by
  intro h
  have h1 := List.findIdx_getElem (w := h)
  have h2 := hn _ h
  simp [List.getD_eq_getElem?_getD, List.getElem?_eq_getElem h, h1] at h2
 rw [idxI, if_neg e]
theorem idxI_any {α : Type} (p : α → Bool) (l : List α) : decide (0 ≤ idxI p l) = l.any p := by
 unfold idxI
 by_cases h : l.findIdx p < l.length
 ·rw [if_pos h, List.any_eq_true.2 ⟨_, List.getElem_mem h, List.findIdx_getElem (w := h)⟩]
  simp
 ·rw [if_neg h]
  have : l.any p = false := by
   rw [List.any_eq_false]
   intro x hx hp
   exact h (List.findIdx_lt_length_of_exists ⟨x, hx, hp⟩)
  rw [this]; rfl
/-! ### impl_Span_53: function 53 -/
set_option maxHeartbeats 2000000 in
theorem impl_Span_53.any (p : S26 → Bool) (g : Nat) (lb : Array Value) (eg : ∀ args w, (callFunc g args).run Try.prog w = .ok (.enter g args) w) (A0 : Option Addr) (c0 : Nat) (l0 : List S26) (w : World)
  (hr0 : Kd.C k26 w A0 l0.length l0)
  (hp : ∀ (W : World) (x : S26) (cs : List Value), Below w.heap.size w W → Kd.K k26 W x cs → Calls Try.prog g (#[.agg cs.toArray] ++ lb) W fun e w' => e = .returned (.bool (p x)) ∧ Below w.heap.size w w') :
  Calls Try.prog 53 #[.slice A0 l0.length c0, .func (.func g) #[] lb] w fun e w' => e = .returned (.int .i64 (idxI p l0)) ∧ Below w.heap.size w w' := by
 have hbig : l0.length ≤ 9223372036854775807 := hr0.2.1
 go_enter Try.func53, Try.ntmps53
 go_wp2
 go_loopg [5, 8] l0.length (fun gg _ s8 wr => ∃ kk : Nat, kk ≤ l0.length ∧ l0.length - kk ≤ gg ∧ s8 = .int .i64 kk ∧ Aside (Below w.heap.size w wr) ∧ Aside (∀ j, j < kk → p (l0.getD j z26) = false))
 case atStart => exact ⟨0, Nat.zero_le _, by omega, rfl, Below.refl _ w, fun j hj => absurd hj (Nat.not_lt_zero _)⟩
 case round =>
  obtain ⟨kk, hkk, hg, rfl, BW, AA⟩ := hrel
  by_cases hlt : kk < l0.length
  ·obtain ⟨ad, c, e, hcl, hK, hcell⟩ := Kd.C_get (Kd.C_below hr0 BW.out) z26 (kk : Int) (by omega) (by omega)
   cases e
   have hltz : (kk : Int) < (l0.length : Int) := by omega
   have hcall := hp wr _ c BW.out hK
   rw [Int.toNat_natCast] at hcall hcell
   clear hr0 hp hK
   obtain ⟨v0_, v1_, rfl⟩ : ∃ v0_ v1_ : Value, c = [v0_, v1_] := by match c, hcl with | [v0_, v1_], _ => exact ⟨v0_, v1_, rfl⟩
   have hx0 : wr.cell? (ad.add (kk * 2)) = some v0_ := hcell 0 _ rfl
   have hx1 : wr.cell? ⟨(ad.add (kk * 2)).block, (ad.add (kk * 2)).off + 1, none⟩ = some v1_ := by rw [← add_field _ _ 1 (by omega)]; exact hcell 1 _ rfl
   generalize hy : p (l0.getD kk z26) = b at hcall
   have Hy : Aside (p (l0.getD kk z26) = b) := hy
   clear hy hcell hcl
   cases b with
   | true =>
    go_wp2_with (go_at_fn g; refine hcall.mono ?_; rintro e w' ⟨rfl, hb'⟩)
    go_ret
    exact ⟨by rw [idxI_hit z26 hlt Hy.out AA.out]; rfl, hb'⟩
   | false =>
    go_wp2_with (go_at_fn g; refine hcall.mono ?_; rintro e w' ⟨rfl, hb'⟩)
    go_roundg (l0.length - (kk + 1))
    case measure => omega
    case rel =>
     refine ⟨kk + 1, by omega, by omega, by go_num, hb', (show Aside _ from fun j hj => ?_)⟩
     by_cases e : j = kk
     ·subst e; exact Hy.out
     ·exact AA.out j (by omega)
  ·have hltz : ¬ (kk : Int) < (l0.length : Int) := by omega
   have e : kk = l0.length := by omega
   have AA' : Aside (∀ j, j < l0.length → p (l0.getD j z26) = false) := fun j hj => AA.out j (by omega)
   clear AA e
   go_wp2
   go_ret
   exact ⟨by rw [idxI_miss z26 AA'.out]; rfl, BW.out⟩

end Go.Proofs.Yteahdfibipalkaa.G

namespace Go.Proofs.Yteahdfibipalkaa.G
open Go.RowKit Go.Proofs.YteahdfibipalkaaW.PrintWords Go.Proofs.YteahdfibipalkaaW.PrintLast Go.Proofs.YteahdfibipalkaaW.PrintMore
attribute [local go_sem] max2_int min2_int max_two min_two max_three min_three max_four min_four   -- for this text's walks alone
set_option linter.unusedVariables false
set_option linter.unusedSimpArgs false

/-! ### impl_Span_39: function 39 -/
theorem impl_Span_39.any (p : S26 → Bool) (g : Nat) (lb : Array Value) (eg : ∀ args w, (callFunc g args).run Try.prog w = .ok (.enter g args) w) (A0 : Option Addr) (c0 : Nat) (l0 : List S26) (w : World)
  (hr0 : Kd.C k26 w A0 l0.length l0)
  (hp : ∀ (W : World) (x : S26) (cs : List Value), Below w.heap.size w W → Kd.K k26 W x cs → Calls Try.prog g (#[.agg cs.toArray] ++ lb) W fun e w' => e = .returned (.bool (p x)) ∧ Below w.heap.size w w') :
  Calls Try.prog 39 #[.slice A0 l0.length c0, .func (.func g) #[] lb] w fun e w' => e = .returned (.bool (l0.any p)) ∧ Below w.heap.size w w' := by
 rw [← idxI_any]
 generalize hi : idxI p l0 = ii
 have HI := zM hi
 clear hi
 go_enter Try.func39, Try.ntmps39
 go_wp2_with (go_at_call 53; refine (impl_Span_53.any p g lb eg A0 c0 l0 _ hr0 hp).mono ?_; rw [HI.out]; rintro e w' ⟨rfl, hb'⟩)
 go_ret
 exact ⟨rfl, hb'⟩

end Go.Proofs.Yteahdfibipalkaa.G

namespace Go.Proofs.Yteahdfibipalkaa.G
open Go.RowKit Go.Proofs.YteahdfibipalkaaW.PrintWords Go.Proofs.YteahdfibipalkaaW.PrintLast Go.Proofs.YteahdfibipalkaaW.PrintMore
attribute [local go_sem] max2_int min2_int max_two min_two max_three min_three max_four min_four   -- for this text's walks alone
set_option linter.unusedVariables false
set_option linter.unusedSimpArgs false

/-! ### impl_CoversSpan: function 12 -/
set_option maxHeartbeats 2000000 in
theorem impl_CoversSpan.lam (B : Nat) (x0 x1 : Int) (w : World) (hB : w.heap[B]? = some (.cells #[.int .i64 x0, .int .i64 x1] 26 (0, 0))) (W : World) (y : S26) (cs : List Value) (hb : Below w.heap.size w W) (hK : Kd.K k26 W y cs) :
  Calls Try.prog 40 (#[.agg cs.toArray] ++ #[.pointer (some ⟨B, 0, none⟩)]) W fun e w' => e = .returned (.bool (decide (y.f0 ≤ x0) && decide (x1 ≤ y.f1))) ∧ Below w.heap.size w w' := by
 obtain rfl := k26_open hK
 clear hK
 have hlt : B < w.heap.size := (Array.getElem?_eq_some_iff.1 hB).1
 have hB' : W.heap[B]? = some (.cells #[.int .i64 x0, .int .i64 x1] 26 (0, 0)) := (hb.block B hlt).trans hB
 have hBW : B < W.heap.size := Nat.lt_of_lt_of_le hlt hb.size
 have hc0 : W.cell? ⟨B, 0, none⟩ = some (.int .i64 x0) := (blk_cell hB' 0).trans rfl
 have hc1 : W.cell? ⟨B, 1, none⟩ = some (.int .i64 x1) := (blk_cell hB' 1).trans rfl
 have hne : B ≠ W.heap.size := by omega
 clear hB hB'
 obtain ⟨y0, y1⟩ := y
 show Calls Try.prog 40 #[.agg #[.int .i64 y0, .int .i64 y1], .pointer (some ⟨B, 0, none⟩)] W _
 by_cases h1 : y0 ≤ x0
 ·have e1 : decide (y0 ≤ x0) = true := decide_eq_true h1
  clear h1
  rw [e1, Bool.true_and]
  have HB := zM hb
  clear hb
  go_enter Try.func40, Try.ntmps40
  go_wp2
  go_ret
  exact ⟨by simp_all, HB.out.alloc HB.out.size _⟩
 ·have e1 : decide (y0 ≤ x0) = false := decide_eq_false h1
  clear h1
  rw [e1, Bool.false_and]
  have HB := zM hb
  clear hb
  go_enter Try.func40, Try.ntmps40
  go_wp2
  go_ret
  exact ⟨by simp_all, HB.out.alloc HB.out.size _⟩
set_option maxHeartbeats 2000000 in
theorem impl_CoversSpan.calls (A0 : Option Addr) (c0 : Nat) (l0 : List (S26)) (a1_0 : Int) (a1_1 : Int) (r : Bool) (w : World) (hr0 : Kd.C k26 w A0 l0.length l0) (hc0 : l0.length ≤ c0) (h : impl_CoversSpan.f l0 a1_0 a1_1 = some r) :
  Calls Try.prog 12 #[.slice A0 l0.length c0, .agg #[.int .i64 a1_0, .int .i64 a1_1]] w fun e w' => e = .returned (.bool r) ∧ Below w.heap.size w w' := by
 have eg : ∀ args w, (callFunc 40 args).run Try.prog w = .ok (.enter 40 args) w := enters_of Try.func40 (by kernel_rfl) rfl
 by_cases hlt : a1_0 ≥ a1_1
 ·obtain rfl : true = r := by simpa [impl_CoversSpan.f, hlt] using h
  have e1 : decide (a1_1 ≤ a1_0) = true := decide_eq_true hlt
  clear hlt h hr0 hc0
  go_enter Try.func12, Try.ntmps12
  go_wp2
  go_ret
  exact ⟨rfl, (Below.refl _ w).alloc (Nat.le_refl _) _⟩
 ·obtain rfl : (l0.any fun y => decide (y.f0 ≤ a1_0) && decide (a1_1 ≤ y.f1)) = r := by simpa [impl_CoversSpan.f, hlt] using h
  have e1 : decide (a1_1 ≤ a1_0) = false := decide_eq_false hlt
  have hcon := fun hl => impl_Span_39.any (fun y => decide (y.f0 ≤ a1_0) && decide (a1_1 ≤ y.f1)) 40 #[.pointer (some ⟨w.heap.size, 0, none⟩)] eg A0 c0 l0 (w.alloc (.cells #[.int .i64 a1_0, .int .i64 a1_1] 26))
   (Kd.C_below hr0 ((Below.refl _ w).alloc (Nat.le_refl _) _)) (impl_CoversSpan.lam w.heap.size a1_0 a1_1 _ hl)
  replace hcon := hcon (heap_alloc_new w _)
  generalize (l0.any fun y => decide (y.f0 ≤ a1_0) && decide (a1_1 ≤ y.f1)) = r at hcon ⊢
  clear hlt h hr0 hc0
  go_enter Try.func12, Try.ntmps12
  go_wp2_with (go_at_call 39; refine hcon.mono ?_; rintro e w' ⟨rfl, hb'⟩)
  go_ret
  exact ⟨rfl, ((Below.refl _ w).alloc (Nat.le_refl _) _).trans (hb'.mono (by simp))⟩

end Go.Proofs.Yteahdfibipalkaa.G

namespace Go.Proofs.Yteahdfibipalkaa.G
open Go.RowKit Go.Proofs.YteahdfibipalkaaW.PrintWords Go.Proofs.YteahdfibipalkaaW.PrintLast Go.Proofs.YteahdfibipalkaaW.PrintMore
attribute [local go_sem] max2_int min2_int max_two min_two max_three min_three max_four min_four   -- for this text's walks alone
set_option linter.unusedVariables false
set_option linter.unusedSimpArgs false

/-! ### impl_inRange: function 57 -/
set_option maxHeartbeats 8000000 in
set_option maxRecDepth 100000 in
theorem impl_inRange.calls (a0 : Int) (a1 : Int) (a2 : Int) (r : Bool) (w : World) (h : impl_inRange.f a0 a1 a2 = some r) :
  Calls Try.prog 57 #[.int .i64 a0, .int .i64 a1, .int .i64 a2] w fun e w' => e = .returned (.bool r) ∧ Drawn0 w w' := by
 have H : (if a1 ≤ a0 then (some (decide (a0 ≤ a2))) else (some false)) = some r := h
 clear h
 by_cases c4 : a1 ≤ a0
 ·rw [if_pos c4] at H
  have c4b0 : decide (a1 ≤ a0) = true := decide_eq_true c4
  clear c4
  obtain rfl := Option.some.inj H
  go_enter Try.func57, Try.ntmps57
  go_wp2
  go_ret
  exact ⟨zS, zW⟩
 ·rw [if_neg c4] at H
  have c4b0 : decide (a1 ≤ a0) = false := decide_eq_false c4
  clear c4
  obtain rfl := Option.some.inj H
  go_enter Try.func57, Try.ntmps57
  go_wp2
  go_ret
  exact ⟨zS, zW⟩

end Go.Proofs.Yteahdfibipalkaa.G

namespace Go.Proofs.Yteahdfibipalkaa.G
open Go.RowKit Go.Proofs.YteahdfibipalkaaW.PrintWords Go.Proofs.YteahdfibipalkaaW.PrintLast Go.Proofs.YteahdfibipalkaaW.PrintMore
attribute [local go_sem] max2_int min2_int max_two min_two max_three min_three max_four min_four   -- for this text's walks alone
set_option linter.unusedVariables false
set_option linter.unusedSimpArgs false

/-! ### impl_ArePieces: function 45 -/
set_option maxHeartbeats 8000000 in
set_option maxRecDepth 100000 in
theorem impl_ArePieces.calls (k : Nat) (A0 : Option Addr) (c0 : Nat) (l0 : List (S44)) (a1 : Int) (r : Bool) (w : World) (hr0 : Kd.C k44 w A0 l0.length l0) (hc0 : l0.length ≤ c0) (h : impl_ArePieces.f k l0 a1 = some r) :
  Calls Try.prog 45 #[.slice A0 l0.length c0, .int .i64 a1] w fun e w' => e = .returned (.bool r) ∧ Below w.heap.size w w' := by
 have HR0 := zM hr0
 have HC0 := zM hc0
 clear hr0 hc0
 have HB := zM (Below.refl w.heap.size w)
 have H : ((impl_SpansOf.f k l0).bind fun t441 => ((impl_inRange.f a1 0 600).bind fun t444 => (if t444 = true then (if (l0.length : Int) > 8 then (some false) else ((impl_IsSpanSet.f k t441).bind fun t445 => (if t445 = true then (if (t441.length : Int) = 0 then (some true) else (if 0 ≤ (wrap64 ((t441.length : Int) - 1)) then (if (wrap64 ((t441.length : Int) - 1)) < (t441.length : Int) then (some (decide (((rd_T26 t441 (wrap64 ((t441.length : Int) - 1))).f1) ≤ a1))) else (none)) else (none))) else (some false)))) else (some false)))) = some r := h
 clear h
 replace H := Option.bind_eq_some_iff.mp H
 obtain ⟨t441, A30, H⟩ := H
 try dsimp only at H
 have A3 := zM A30
 clear A30
 replace H := Option.bind_eq_some_iff.mp H
 obtain ⟨t444, A40, H⟩ := H
 try dsimp only at H
 have A4 := zM A40
 clear A40
 by_cases c5 : t444 = true
 ·subst c5
  rw [if_pos rfl] at H
  by_cases c6 : (l0.length : Int) > 8
  ·rw [if_pos c6] at H
   have c6b0 : decide (8 < (l0.length : Int)) = true := decide_eq_true c6
   have c6b1 : decide (8 < l0.length) = true := decide_eq_true (by omega)
   clear c6
   obtain rfl := Option.some.inj H
   go_enter Try.func45, Try.ntmps45
   go_wp2_with (first | ((with_reducible refine gate_callee (f := 30) rfl ?_); refine zG (some 7) Try.func30 #[.slice A0 l0.length c0] ?_; (with_reducible refine (impl_SpansOf.calls k _ _ l0 t441 _ ?side1 ?side2 A3.out).mono ?_); (case side1 => exact (zC HR0.out)); (case side2 => exact HC0.out); rintro e w7 ⟨v442, rfl, ho0, hb⟩; refine ⟨_, rfl, ?_⟩; have n0_ := zM (Kd.R_lower ho0 (below_size (zB HB.out))); have n1_ := zM (below_step (zB HB.out) hb); clear HB; have HO443 := n0_; have HB := n1_; clear n0_ n1_; (try clear hb); (try clear hb2); (try clear hk); (try clear hi); (try clear ho0)) | ((with_reducible refine gate_callee (f := 57) rfl ?_); refine zG (some 9) Try.func57 #[.int .i64 a1, .int .i64 0, .int .i64 600] ?_; (with_reducible refine (impl_inRange.calls a1 0 600 true _ A4.out).mono ?_); rintro e w' ⟨rfl, ⟨nd, rfl⟩⟩; refine ⟨_, rfl, ?_⟩))
   go_ret
   exact ⟨zE, (zB HB.out)⟩
  ·rw [if_neg c6] at H
   have c6b0 : decide (8 < (l0.length : Int)) = false := decide_eq_false c6
   have c6b1 : decide (8 < l0.length) = false := decide_eq_false (by omega)
   clear c6
   replace H := Option.bind_eq_some_iff.mp H
   obtain ⟨t445, A80, H⟩ := H
   try dsimp only at H
   have A8 := zM A80
   clear A80
   by_cases c9 : t445 = true
   ·subst c9
    rw [if_pos rfl] at H
    by_cases c10 : (t441.length : Int) = 0
    ·rw [if_pos c10] at H
     have c10b0 : ((t441.length : Int) == 0) = true := beq_iff_eq.mpr c10
     have c10b1 : ((t441.length : Int) != 0) = false := bne_eq_false_iff_eq.mpr c10
     clear c10
     obtain rfl := Option.some.inj H
     go_enter Try.func45, Try.ntmps45
     go_wp2_with (first | ((with_reducible refine gate_callee (f := 30) rfl ?_); refine zG (some 7) Try.func30 #[.slice A0 l0.length c0] ?_; (with_reducible refine (impl_SpansOf.calls k _ _ l0 t441 _ ?side1 ?side2 A3.out).mono ?_); (case side1 => exact (zC HR0.out)); (case side2 => exact HC0.out); rintro e w11 ⟨v442, rfl, ho0, hb⟩; refine ⟨_, rfl, ?_⟩; have n0_ := zM (Kd.R_lower ho0 (below_size (zB HB.out))); have n1_ := zM (below_step (zB HB.out) hb); clear HB; have HO443 := n0_; have HB := n1_; clear n0_ n1_; (try clear hb); (try clear hb2); (try clear hk); (try clear hi); (try clear ho0)) | ((with_reducible refine gate_callee (f := 57) rfl ?_); refine zG (some 9) Try.func57 #[.int .i64 a1, .int .i64 0, .int .i64 600] ?_; (with_reducible refine (impl_inRange.calls a1 0 600 true _ A4.out).mono ?_); rintro e w' ⟨rfl, ⟨nd, rfl⟩⟩; refine ⟨_, rfl, ?_⟩; obtain ⟨Ao12, co12, eo12⟩ := Kd.R_slice HO443.out; subst eo12) | (go_at_call 16; (with_reducible refine (impl_IsSpanSet.calls k _ _ t441 true _ ?side1 ?side2 A8.out).mono ?_); (case side1 => exact (zC ((Kd.R_reads' HO443.out).2.2))); (case side2 => exact (Kd.R_reads' HO443.out).2.1); rintro e w13 ⟨rfl, hb⟩; have n0_ := zM (Kd.R_below (zR HO443.out) hb); have n1_ := zM (below_step (zB HB.out) hb); clear HO443; clear HB; have HO443 := n0_; have HB := n1_; clear n0_ n1_; (try clear hb); (try clear hb2); (try clear hk); (try clear hi)))
     go_ret
     exact ⟨zE, (zB HB.out)⟩
    ·rw [if_neg c10] at H
     have c10b0 : ((t441.length : Int) == 0) = false := beq_eq_false_iff_ne.mpr c10
     have c10b1 : ((t441.length : Int) != 0) = true := bne_iff_ne.mpr c10
     have c10b2 : ¬ (t441 = []) := fun h_ => c10 (by rw [h_]; rfl)
     obtain ⟨ji14, hji14⟩ : ∃ j_ : Int, (wrap64 ((t441.length : Int) - 1)) = j_ := ⟨_, rfl⟩
     replace H : (if 0 ≤ (ji14) then (if (ji14) < (t441.length : Int) then (some (decide (((rd_T26 t441 (ji14)).f1) ≤ a1))) else (none)) else (none)) = some r := by first | (rw [hji14] at H; exact H) | (simp only [hji14] at H ⊢; exact H)
     (try rw [hji14] at A3)
     (try rw [hji14] at A4)
     (try rw [hji14] at A8)
     have hji14w : (IntKind.i64.wrap ((t441.length : Int) - 1)) = ji14 := (i64_w _).trans hji14
     by_cases c15 : 0 ≤ (ji14)
     ·rw [if_pos c15] at H
      have c15b0 : decide (0 ≤ (ji14)) = true := decide_eq_true c15
      clear c15
      by_cases c16 : (ji14) < (t441.length : Int)
      ·rw [if_pos c16] at H
       have c16b0 : decide ((ji14) < (t441.length : Int)) = true := decide_eq_true c16
       clear c16
       obtain rfl := Option.some.inj H
       go_enter Try.func45, Try.ntmps45
       go_wp2_with (first | ((with_reducible refine gate_callee (f := 30) rfl ?_); refine zG (some 7) Try.func30 #[.slice A0 l0.length c0] ?_; (with_reducible refine (impl_SpansOf.calls k _ _ l0 t441 _ ?side1 ?side2 A3.out).mono ?_); (case side1 => exact (zC HR0.out)); (case side2 => exact HC0.out); rintro e w17 ⟨v442, rfl, ho0, hb⟩; refine ⟨_, rfl, ?_⟩; have n0_ := zM (Kd.R_lower ho0 (below_size (zB HB.out))); have n1_ := zM (below_step (zB HB.out) hb); clear HB; have HO443 := n0_; have HB := n1_; clear n0_ n1_; (try clear hb); (try clear hb2); (try clear hk); (try clear hi); (try clear ho0)) | ((with_reducible refine gate_callee (f := 57) rfl ?_); refine zG (some 9) Try.func57 #[.int .i64 a1, .int .i64 0, .int .i64 600] ?_; (with_reducible refine (impl_inRange.calls a1 0 600 true _ A4.out).mono ?_); rintro e w' ⟨rfl, ⟨nd, rfl⟩⟩; refine ⟨_, rfl, ?_⟩; obtain ⟨Ao18, co18, eo18⟩ := Kd.R_slice HO443.out; subst eo18) | (go_at_call 16; (with_reducible refine (impl_IsSpanSet.calls k _ _ t441 true _ ?side1 ?side2 A8.out).mono ?_); (case side1 => exact (zC ((Kd.R_reads' HO443.out).2.2))); (case side2 => exact (Kd.R_reads' HO443.out).2.1); rintro e w19 ⟨rfl, hb⟩; have n0_ := zM (Kd.R_below (zR HO443.out) hb); have n1_ := zM (below_step (zB HB.out) hb); clear HO443; clear HB; have HO443 := n0_; have HB := n1_; clear n0_ n1_; (try clear hb); (try clear hb2); (try clear hk); (try clear hi); have p446 : 0 ≤ ((ji14) : Int) := zD; have q446 : (ji14) < (t441.length : Int) := zD; obtain ⟨ad446, e446, hx446_0, hx446_1⟩ := at_T26 (Kd.R_reads' HO443.out).2.2 (ji14) p446 q446; cases e446; replace p446 := eq_true p446; replace q446 := eq_true q446))
       go_ret
       exact ⟨by first | rfl | (simp [errW_none, errW_some] <;> rfl) | (simp only [← hji14]; first | rfl | (simp [errW_none, errW_some] <;> rfl)) | (simp [*, errW_none, errW_some] <;> rfl), (zB HB.out)⟩
      ·rw [if_neg c16] at H
       exact absurd H (by simp)
     ·rw [if_neg c15] at H
      exact absurd H (by simp)
   ·replace c9 := Bool.eq_false_iff.mpr c9
    subst c9
    rw [if_neg (show ¬ (false = true) by decide)] at H
    obtain rfl := Option.some.inj H
    go_enter Try.func45, Try.ntmps45
    go_wp2_with (first | ((with_reducible refine gate_callee (f := 30) rfl ?_); refine zG (some 7) Try.func30 #[.slice A0 l0.length c0] ?_; (with_reducible refine (impl_SpansOf.calls k _ _ l0 t441 _ ?side1 ?side2 A3.out).mono ?_); (case side1 => exact (zC HR0.out)); (case side2 => exact HC0.out); rintro e w20 ⟨v442, rfl, ho0, hb⟩; refine ⟨_, rfl, ?_⟩; have n0_ := zM (Kd.R_lower ho0 (below_size (zB HB.out))); have n1_ := zM (below_step (zB HB.out) hb); clear HB; have HO443 := n0_; have HB := n1_; clear n0_ n1_; (try clear hb); (try clear hb2); (try clear hk); (try clear hi); (try clear ho0)) | ((with_reducible refine gate_callee (f := 57) rfl ?_); refine zG (some 9) Try.func57 #[.int .i64 a1, .int .i64 0, .int .i64 600] ?_; (with_reducible refine (impl_inRange.calls a1 0 600 true _ A4.out).mono ?_); rintro e w' ⟨rfl, ⟨nd, rfl⟩⟩; refine ⟨_, rfl, ?_⟩; obtain ⟨Ao21, co21, eo21⟩ := Kd.R_slice HO443.out; subst eo21) | (go_at_call 16; (with_reducible refine (impl_IsSpanSet.calls k _ _ t441 false _ ?side1 ?side2 A8.out).mono ?_); (case side1 => exact (zC ((Kd.R_reads' HO443.out).2.2))); (case side2 => exact (Kd.R_reads' HO443.out).2.1); rintro e w22 ⟨rfl, hb⟩; have n0_ := zM (Kd.R_below (zR HO443.out) hb); have n1_ := zM (below_step (zB HB.out) hb); clear HO443; clear HB; have HO443 := n0_; have HB := n1_; clear n0_ n1_; (try clear hb); (try clear hb2); (try clear hk); (try clear hi)))
    go_ret
    exact ⟨zE, (zB HB.out)⟩
 ·replace c5 := Bool.eq_false_iff.mpr c5
  subst c5
  rw [if_neg (show ¬ (false = true) by decide)] at H
  obtain rfl := Option.some.inj H
  go_enter Try.func45, Try.ntmps45
  go_wp2_with (first | ((with_reducible refine gate_callee (f := 30) rfl ?_); refine zG (some 7) Try.func30 #[.slice A0 l0.length c0] ?_; (with_reducible refine (impl_SpansOf.calls k _ _ l0 t441 _ ?side1 ?side2 A3.out).mono ?_); (case side1 => exact (zC HR0.out)); (case side2 => exact HC0.out); rintro e w23 ⟨v442, rfl, ho0, hb⟩; refine ⟨_, rfl, ?_⟩; have n0_ := zM (Kd.R_lower ho0 (below_size (zB HB.out))); have n1_ := zM (below_step (zB HB.out) hb); clear HB; have HO443 := n0_; have HB := n1_; clear n0_ n1_; (try clear hb); (try clear hb2); (try clear hk); (try clear hi); (try clear ho0)) | ((with_reducible refine gate_callee (f := 57) rfl ?_); refine zG (some 9) Try.func57 #[.int .i64 a1, .int .i64 0, .int .i64 600] ?_; (with_reducible refine (impl_inRange.calls a1 0 600 false _ A4.out).mono ?_); rintro e w' ⟨rfl, ⟨nd, rfl⟩⟩; refine ⟨_, rfl, ?_⟩))
  go_ret
  exact ⟨zE, (zB HB.out)⟩

end Go.Proofs.Yteahdfibipalkaa.G

namespace Go.Proofs.Yteahdfibipalkaa.G
open Go.RowKit Go.Proofs.YteahdfibipalkaaW.PrintWords Go.Proofs.YteahdfibipalkaaW.PrintLast Go.Proofs.YteahdfibipalkaaW.PrintMore
attribute [local go_sem] max2_int min2_int max_two min_two max_three min_three max_four min_four   -- for this text's walks alone
set_option linter.unusedVariables false
set_option linter.unusedSimpArgs false

/-! ### impl_Piece: function 46 -/
set_option maxHeartbeats 8000000 in
set_option maxRecDepth 100000 in
theorem impl_Piece.calls (A0 : Option Addr) (c0 : Nat) (l0 : List (S44)) (r : List (S44)) (w : World) (hr0 : Kd.C k44 w A0 l0.length l0) (hc0 : l0.length ≤ c0) (h : impl_Piece.f l0 = some r) :
  Calls Try.prog 46 #[.slice A0 l0.length c0] w fun e w' => ∃ v0_ : Value, e = .returned (v0_) ∧ Kd.R k44 44 w' w.heap.size (fun _ => True) v0_ r ∧ Below w.heap.size w w' := by
 have q_ : ∀ (w : World) (a : Option Addr) (n c n' c' : Nat), (binOp .eql 40 (.slice a n c) (.slice none n' c')).run Try.prog w = .ok (.bool a.isNone) w := fun w a n c n' c' => Lib.run_eql_slice_nil w _ _ a n c n' c' Try.underlying40
 by_cases hA : A0 = none
 ·subst hA
  obtain rfl : l0 = [] := by
   rcases l0 with _ | ⟨x, t⟩
   ·rfl
   ·obtain ⟨ad, e, _⟩ := hr0.2.2 (by simp)
    cases e
  obtain rfl : r = [] := by simpa [impl_Piece.f] using h.symm
  clear hr0 hc0 h
  go_enter Try.func46, Try.ntmps46
  go_wp2
  go_ret
  exact ⟨_, rfl, Kd.R_nil _ _ _ _ _, Below.refl _ _⟩
 have hA' : A0.isNone = false := by cases A0 <;> simp_all
 clear hA
 have HR0 := zM hr0
 have HC0 := zM hc0
 clear hr0 hc0
 have HB := zM (Below.refl w.heap.size w)
 have H : ((some (([] : List (S44)) : List (S44))).bind fun y447 => (if y447.length + l0.length < 5864062014805 then (some (y447 ++ l0)) else (none))) = some r := h
 clear h
 obtain ⟨y447, hy447⟩ : ∃ y_ : List (S44), y_ = (([] : List (S44))) := ⟨_, rfl⟩
 replace H : (if y447.length + l0.length < 5864062014805 then (some (y447 ++ l0)) else (none)) = some r := zH hy447 H
 have Ny447 := zM hy447
 clear hy447
 by_cases c2 : y447.length + l0.length < 5864062014805
 ·rw [if_pos c2] at H
  have LMc2 := zM c2
  clear c2
  obtain ⟨y450, hy450⟩ : ∃ y_ : List (S44), y_ = (y447 ++ l0) := ⟨_, rfl⟩
  replace H : (some y450) = some r := zH hy450 H
  have Ny450 := zM hy450
  clear hy450
  obtain rfl := Option.some.inj H
  go_enter Try.func46, Try.ntmps46
  go_wp2_with (first | ((with_reducible refine gate_dst (N := 5) rfl ?_); refine Kd.R_lit k44 _ 44 ?hg (N := 5) ?hd (xs := ([] : List (S44))) (inner := []) (ok := fun _ => True) (okp := fun _ => True) ?hr ?hp (fun _ hk => hk) trivial (Below.refl _ _) (Nat.le_refl _) (by simp) ?_; (case hd => rfl); (case hg => rfl); (case hr => first | (go_simp; done) | (go_simp; rfl)); (case hp => exact (Reps.none _ _)); intro v448 w3 ho4 hb hg_ hnew_; clear hg_ hnew_; (first | rw [← Ny447.out] at ho4 | (simp only [Int.reduceToNat] at ho4; rw [← Ny447.out] at ho4)); have n0_ := zM (Kd.R_lower ho4 (below_size (zB HB.out))); have n1_ := zM (below_step (zB HB.out) hb); clear HB; have HO449 := n0_; have HB := n1_; clear n0_ n1_; clear hb ho4) | ((with_reducible refine gate_builtin (b := .append) (xs := #[.tmp 5, .tmp 6]) rfl ?_); at_builtin; refine Kd.R_append_rows k44 (w0 := w) w.heap.size rfl (.tmp 5) (.tmp 6) 40 44 (.agg #[(.int .i64 0), (.string ⟨#[]⟩)]) 24 rfl Try.underlying40 info44 rfl (by decide) (by omega) v448 y447 l0 _ _ _ (fun _ => True) (fun _ => False) rfl rfl ?aO ?aR (fun _ _ h => h) (fun _ h => h.elim) ?aF ?aB ?aS ?aL ?_; (case aR => exact (zC (Kd.C_below HR0.out HB.out))); (case aB => exact (zB HB.out)); (case aF => exact (fun _ _ => trivial)); (case aO => exact (zR HO449.out)); (case aS => exact (below_size (zB HB.out))); (case aL => have := LMc2.out; omega); intro v451 w5 ho hb hg hat; rw [← Ny450.out] at ho; have n0_ := zM (hb); have n1_ := zM (ho); clear HB; clear HO449; have HB := n0_; have HO452 := n1_; clear n0_ n1_; clear ho hb hg hat))
  go_ret
  exact ⟨_, zE, (zR HO452.out), (zB HB.out)⟩
 ·rw [if_neg c2] at H
  exact absurd H (by simp)

end Go.Proofs.Yteahdfibipalkaa.G
